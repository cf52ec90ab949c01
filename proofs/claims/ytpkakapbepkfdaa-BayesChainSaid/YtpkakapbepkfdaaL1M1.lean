/-
  Building the structs of this layer.
  The small functions: within, the tests of a list, reduced, whole.
  newNetwork: what a network is.
  whole, reduced.
  weight: the product of the probabilities of a row of values.
  Joint.
  The reference: networks, weights, fractions.
  The reference: weights, fractions, Joint.
  list, network: copies of any input.
-/
import Derived.Test.YtpkakapbepkfdaaL1Facts
set_option linter.unusedVariables false
set_option linter.unusedSimpArgs false
set_option maxRecDepth 10000
namespace Go.Proofs.Ytpkakapbepkfdaa
open Go Go.Am

variable {c : Cfg} {h h' : Hp} {K : AV → Hp → Prop} {ops : Array Oper} {lim : Option Nat} {st : St}

@[go_sem ↓ high] theorem W_b79z : StepW Try.prog c ops lim (.build 79 #[]) st h K = K (.agg [.nil, .nil, I 0]) h := by
  rw [W_build, show buildB Try.prog (Try.prog.underlying 79) (izero Try.prog 79) ((#[] : Array (Nat × Operand)).toList.map fun p => (p.1, ev st p.2)) = some (.agg [.nil, .nil, I 0]) by kernel_rfl]
  exact getW_some _
@[go_sem ↓ high] theorem W_b29z : StepW Try.prog c ops lim (.build 29 #[]) st h K = K (.agg [I 0, I 0]) h := by
  rw [W_build, show buildB Try.prog (Try.prog.underlying 29) (izero Try.prog 29) ((#[] : Array (Nat × Operand)).toList.map fun p => (p.1, ev st p.2)) = some (.agg [I 0, I 0]) by kernel_rfl]
  exact getW_some _
/-- Two numbers, as a fraction. -/
noncomputable def mk29 (x y : AV) : Option AV := buildB Try.prog (Try.prog.underlying 29) (izero Try.prog 29) [(0, x), (1, y)]
@[go_sem ↓ high] theorem W_b29 (a b : Operand) : StepW Try.prog c ops lim (.build 29 #[(0, a), (1, b)]) st h K = getW (mk29 (ev st a) (ev st b)) h K := by
  rw [W_build]; rfl
@[go_sem] theorem mk29_I (x y : Int) : mk29 (I x) (I y) = some (.agg [I x, I y]) := by kernel_rfl
noncomputable def mk79 (x y : AV) : Option AV := buildB Try.prog (Try.prog.underlying 79) (izero Try.prog 79) [(0, x), (1, y)]
@[go_sem ↓ high] theorem W_b79 (a b : Operand) : StepW Try.prog c ops lim (.build 79 #[(0, a), (1, b)]) st h K = getW (mk79 (ev st a) (ev st b)) h K := by
  rw [W_build]; rfl
@[go_sem] theorem mk79_I (p t : List (List Int)) (n : Int) : mk79 (.agg [LLI p, LLI t]) (I n) = some (.agg [LLI p, LLI t, I n]) := by kernel_rfl
noncomputable def eq29 (x y : AV) : Option AV := binA Try.prog .eql 29 x y
noncomputable def ne29 (x y : AV) : Option AV := binA Try.prog .neq 29 x y
@[go_sem ↓ high] theorem W_eq29 (x y : Operand) (z) : StepW Try.prog c ops lim (.binOp .eql 29 x y z) st h K = getW (eq29 (ev st x) (ev st y)) h K := StepW_pureOp rfl rfl rfl rfl fun _ => rfl
@[go_sem ↓ high] theorem W_ne29 (x y : Operand) (z) : StepW Try.prog c ops lim (.binOp .neq 29 x y z) st h K = getW (ne29 (ev st x) (ev st y)) h K := StepW_pureOp rfl rfl rfl rfl fun _ => rfl
@[go_sem] theorem eq29_I (a b c d : Int) : eq29 (.agg [I a, I b]) (.agg [I c, I d]) = some (.bool (decide (a = c) && decide (b = d))) := by
  have : eq29 (.agg [I a, I b]) (.agg [I c, I d]) = some (.bool ((a == c && (b == d && true)) == true)) := by kernel_rfl
  rw [this]; simp [Bool.beq_eq_decide_eq]
@[go_sem] theorem ne29_I (a b c d : Int) : ne29 (.agg [I a, I b]) (.agg [I c, I d]) = some (.bool (!(decide (a = c) && decide (b = d)))) := by
  have : ne29 (.agg [I a, I b]) (.agg [I c, I d]) = some (.bool ((a == c && (b == d && true)) == false)) := by kernel_rfl
  rw [this]; simp [Bool.beq_eq_decide_eq]

@[go_sem] theorem storeC_w2 (id : Nat) (row : Bool) (a b x y : AV) : storeC h id 0 2 (some (.cells false row [a, b])) [x, y] = if (x.isCell && y.isCell) = true then some (.skp, h.put id (some (.cells false row [x, y]))) else none := by
  simp [storeC, setL]
@[go_sem] theorem storeC_w3 (id : Nat) (row : Bool) (a b c x y z : AV) : storeC h id 0 3 (some (.cells false row [a, b, c])) [x, y, z] = if (x.isCell && (y.isCell && z.isCell)) = true then some (.skp, h.put id (some (.cells false row [x, y, z]))) else none := by
  simp [storeC, setL]

@[go_sem] theorem ev_nilmap : ev st (.const (.map none)) = .nilmp := rfl

/-! ### Results that lie in memory -/
def resC (P : Program) (h : Hp) (t : TypeId) : AV → Option AV
  | .ptr id off => loadC (P.underlying t) (isz P t) (cellsAt none h (.ptr id off))
  | _ => none
@[go_sem] theorem resC_ptr (P : Program) (t : TypeId) (id off : Nat) : resC P h t (.ptr id off) = loadC (P.underlying t) (isz P t) (cellsAt none h (.ptr id off)) := rfl
theorem resA_cell (P : Program) (a t : Nat) : resA P h st (.cell a t) = resC P h t (st a) := by
  simp only [resA]
  cases st a <;> try rfl
  rename_i id off
  simp only [resC, loadC, cellsAt, loadA_B]
  cases rd h none id <;> rfl
@[go_sem] theorem resR_c (P : Program) (a t : Nat) : resR P h st [.cell a t] = resC P h t (st a) := by
  simp only [resR, resL, resA_cell]; cases resC P h t (st a) <;> rfl
@[go_sem] theorem resR_ct (P : Program) (a t u : Nat) : resR P h st [.cell a t, .tmp u] = (resC P h t (st a)).bind fun v => some (.tup [v, st u]) := by
  simp only [resR, resL, resA_cell]; cases resC P h t (st a) <;> rfl
@[go_sem] theorem resR_tct (P : Program) (a t u w : Nat) : resR P h st [.tmp w, .cell a t, .tmp u] = (resC P h t (st a)).bind fun v => some (.tup [st w, v, st u]) := by
  simp only [resR, resL, resA_cell]; cases resC P h t (st a) <;> rfl
@[go_sem] theorem resR_cct (P : Program) (a t b t' u : Nat) : resR P h st [.cell a t, .cell b t', .tmp u] = (resC P h t (st a)).bind fun v => (resC P h t' (st b)).bind fun v' => some (.tup [v, v', st u]) := by
  simp only [resR, resL, resA_cell]; cases resC P h t (st a) <;> cases resC P h t' (st b) <;> rfl

/-! ### copy -/
def slId : AV → Nat
  | .sl id _ _ _ => id
  | _ => 0
@[go_sem] theorem slId_sl (id o n s : Nat) : slId (.sl id o n s) = id := rfl
def copyC (h : Hp) (u : Option TypeDesc) (s : Option Nat) (x : AV) (b : Option Blk) (ys : Option (List AV)) (m : Option Nat) : Option (AV × Hp) :=
  match u, x with
  | some (.slice _), .sl id off n sz => match s, ys, m, b with
    | some sz', some ys, some m, some (.cells false row flat) =>
      if sz' = sz ∧ 0 < sz ∧ ys.length = m * sz ∧ off + n * sz ≤ flat.length ∧ ys.all AV.isCell then
        some (.int .i64 (min m n : Nat), h.put id (some (.cells false row (setL flat off (ys.take (min m n * sz)))))) else none
    | _, _, _, _ => none
  | _, _ => none
@[go_sem ↓] theorem W_copy (x y : Operand) (t t' : TypeId) : StepW Try.prog c ops lim (.call ⟨.builtin .copy, #[x, y], #[t, t']⟩) st h K =
    getW2 (copyC h (Try.prog.underlying t) (isz Try.prog (match Try.prog.underlying t with | some (.slice e) => e | _ => 0)) (ev st x) (h.bl (slId (ev st x))) (cellsOf h none (ev st y)) (lenA (ev st y))) K := by
  refine StepW_writeOp ?_ rfl rfl rfl fun _ => rfl
  simp only [opWrite, copyC, List.getElem?_toArray, List.getElem?_cons_zero, List.getElem?_cons_succ, Option.map_some]
  generalize ev st x = v
  cases v <;> dsimp only <;> generalize Try.prog.underlying t = u <;> (cases u with
    | none => rfl
    | some d => cases d <;> rfl)
theorem setL_front {α : Type} (f : α → AV) (vs xs : List α) (hl : vs.length ≤ xs.length) : setL (xs.flatMap (e1 f)) 0 (vs.flatMap (e1 f)) = (vs ++ xs.drop vs.length).flatMap (e1 f) := by
  have e : ∀ ys : List α, ys.flatMap (e1 f) = ys.map f := by
    intro ys
    induction ys with
    | nil => rfl
    | cons y ys ih => rw [List.flatMap_cons, ih]; rfl
  rw [e, e, e]
  refine List.ext_getElem? fun j => ?_
  rw [(setL_get (vs.map f) (xs.map f) 0 (by simpa using hl)).2 j]
  simp only [Nat.zero_le, true_and, Nat.zero_add, List.length_map, Nat.sub_zero]
  split
  · rename_i hj
    rw [List.map_append, List.getElem?_append_left (by simpa using hj)]
  · rename_i hj
    rw [List.map_append, List.getElem?_append_right (by simp; omega)]
    simp only [List.getElem?_map, List.length_map, List.getElem?_drop]
    congr 2; omega
@[go_sem] theorem copyC_I (e id n : Nat) (row : Bool) (xs vs : List Int) (hl : xs.length = n) (hv : vs.length ≤ n) :
    copyC h (some (.slice e)) (some 1) (.sl id 0 n 1) (some (.cells false row (xs.flatMap (e1 I)))) (some (vs.flatMap (e1 I))) (some vs.length) =
      some (I vs.length, h.put id (some (.cells false row ((vs ++ xs.drop vs.length).flatMap (e1 I))))) := by
  have h1 : (vs.flatMap (e1 I)).all AV.isCell = true := by
    refine List.all_eq_true.2 fun x hx => ?_
    obtain ⟨a, _, ha⟩ := List.mem_flatMap.1 hx
    simp only [e1, List.mem_singleton] at ha
    subst ha; rfl
  have h2 : min vs.length n = vs.length := by omega
  unfold copyC; dsimp only
  rw [if_pos ⟨rfl, by decide, by rw [flat_len]; omega, by rw [flat_len]; omega, h1⟩, h2, List.take_of_length_le (by rw [flat_len]; omega), setL_front _ _ _ (by omega)]

/-! ### A part of an array -/
def sliceC (s : Option Nat) (n off id : Nat) (lo hi : Option AV) (b : Option Blk) (l : Bool) : Option AV :=
  (hiB hi n).bind fun b' => (loB lo b').bind fun a => match s, b with
    | some sz, some (.cells _ false flat) => if off + n * sz ≤ flat.length ∧ n ≤ maxLen ∧ l = true then some (.sl id (off + a * sz) (b' - a) sz) else none
    | _, _ => none
@[go_sem] theorem sliceB_arr (P : Program) (n e id off : Nat) (lo hi : Option AV) : sliceB P (some (.array n e)) (.ptr id off) lo hi h lim = sliceC (isz P e) n off id lo hi (h.bl id) (lims lim id) := rfl
@[go_sem] theorem sliceC_all (id : Nat) (fz : Bool) (xs : List Int) (hl : xs.length = 10) : sliceC (some 1) 10 0 id none none (some (.cells fz false (xs.flatMap (e1 I)))) true = some (.sl id 0 10 1) := by
  have : (10 : Nat) ≤ maxLen := by decide
  have hfl : (xs.flatMap (e1 I)).length = 10 := by rw [flat_len, hl]
  generalize xs.flatMap (e1 I) = fl at hfl
  simp [sliceC, hiB, loB, hfl, this]
@[go_sem] theorem sliceC_to (id : Nat) (fz : Bool) (xs : List Int) (m : Int) (hl : xs.length = 10) (h0 : 0 ≤ m) (h1 : m ≤ 10) : sliceC (some 1) 10 0 id none (some (I m)) (some (.cells fz false (xs.flatMap (e1 I)))) true = some (.sl id 0 m.toNat 1) := by
  have : (10 : Nat) ≤ maxLen := by decide
  have hfl : (xs.flatMap (e1 I)).length = 10 := by rw [flat_len, hl]
  generalize xs.flatMap (e1 I) = fl at hfl
  simp [sliceC, hiB, loB, boundA, hfl, this, h0, h1]

end Go.Proofs.Ytpkakapbepkfdaa

set_option linter.unusedVariables false
set_option linter.unusedSimpArgs false
set_option maxRecDepth 10000
namespace Go.Proofs.Ytpkakapbepkfdaa
open Go Go.Am

variable {h h' : Hp} {K : AV → Hp → Prop}

def inB (x lo hi : Int) : Bool := decide (lo ≤ x ∧ x ≤ hi)
theorem f49_con (x lo hi : Int) : Con Try.prog cfg 49 [I x, I lo, I hi] (.bool (inB x lo hi)) := by
  refine Con_intro Try.func49 rfl ok49 (Nat.le_of_ble_eq_true rfl) rfl ?_
  simp only [Try.f49, Option.getD_some, initSt3]
  by_cases h1 : lo ≤ x
  case neg =>
    have : inB x lo hi = false := by simp [inB, h1]
    simp (disch := first | (simp only [go_sem, Bool.and_self, eq_self]; done) | omega | (simp only [List.length_cons, List.length_nil]; omega)) only [go_sem, ↓reduceIte, Nat.reduceEqDiff, Nat.reduceAdd, Nat.reduceMul, Nat.reduceSub, Int.reduceToNat, Nat.reduceBEq, List.size_toArray, List.length_cons, List.length_nil, Bool.false_and, Bool.true_and, Bool.or_false, Bool.false_or, Bool.and_false, Bool.and_true, h1, this]
  by_cases h2 : x ≤ hi
  case neg =>
    have : inB x lo hi = false := by simp [inB, h2]
    simp (disch := first | (simp only [go_sem, Bool.and_self, eq_self]; done) | omega | (simp only [List.length_cons, List.length_nil]; omega)) only [go_sem, ↓reduceIte, Nat.reduceEqDiff, Nat.reduceAdd, Nat.reduceMul, Nat.reduceSub, Int.reduceToNat, Nat.reduceBEq, List.size_toArray, List.length_cons, List.length_nil, Bool.false_and, Bool.true_and, Bool.or_false, Bool.false_or, Bool.and_false, Bool.and_true, h1, h2, this]
  have : inB x lo hi = true := by simp [inB, h1, h2]
  simp (disch := first | (simp only [go_sem, Bool.and_self, eq_self]; done) | omega | (simp only [List.length_cons, List.length_nil]; omega)) only [go_sem, ↓reduceIte, Nat.reduceEqDiff, Nat.reduceAdd, Nat.reduceMul, Nat.reduceSub, Int.reduceToNat, Nat.reduceBEq, List.size_toArray, List.length_cons, List.length_nil, Bool.false_and, Bool.true_and, Bool.or_false, Bool.false_or, Bool.and_false, Bool.and_true, h1, h2, this]
@[go_sem] theorem k49 (x lo hi : Int) : ConW Try.prog cfg 49 h (some ([I x, I lo, I hi], h')) K = K (.bool (inB x lo hi)) h := ConW_num (f49_con x lo hi) rfl

theorem f48_con (x : Int) : Con Try.prog cfg 48 [I x] (.bool (!inB x 0 1)) := by
  refine Con_intro Try.func48 rfl ok48 (Nat.le_of_ble_eq_true rfl) rfl ?_
  simp only [Try.f48, Option.getD_some, initSt1]
  simp (disch := first | (simp only [go_sem, Bool.and_self, eq_self]; done) | omega | (simp only [List.length_cons, List.length_nil]; omega)) only [go_sem, ↓reduceIte, Nat.reduceEqDiff, Nat.reduceAdd, Nat.reduceMul, Nat.reduceSub, Int.reduceToNat, Nat.reduceBEq, List.size_toArray, List.length_cons, List.length_nil, Bool.false_and, Bool.true_and, Bool.or_false, Bool.false_or, Bool.and_false, Bool.and_true]
theorem f71_con (x : Int) : Con Try.prog cfg 71 [I x] (.bool (!inB x 0 16)) := by
  refine Con_intro Try.func71 rfl ok71 (Nat.le_of_ble_eq_true rfl) rfl ?_
  simp only [Try.f71, Option.getD_some, initSt1]
  simp (disch := first | (simp only [go_sem, Bool.and_self, eq_self]; done) | omega | (simp only [List.length_cons, List.length_nil]; omega)) only [go_sem, ↓reduceIte, Nat.reduceEqDiff, Nat.reduceAdd, Nat.reduceMul, Nat.reduceSub, Int.reduceToNat, Nat.reduceBEq, List.size_toArray, List.length_cons, List.length_nil, Bool.false_and, Bool.true_and, Bool.or_false, Bool.false_or, Bool.and_false, Bool.and_true]

/-- The first index that a test takes. -/
def idxF (p : Int → Bool) (xs : List Int) : Int := match xs.findIdx? p with | some i => i | none => -1
theorem f72_con (g : FuncId) (hs : cfg.shared g = false) (p : Int → Bool) (hp : ∀ x, Con Try.prog cfg g [I x] (.bool (p x))) (xs : List Int) (hl : xs.length ≤ maxLen) : Con Try.prog cfg 72 [LI xs, .fn g []] (I (idxF p xs)) := by
  have ml : maxLen = 9223372036854775807 := by decide
  have kk := fun args h K => CallW_out (P := Try.prog) (cfg := cfg) (h := h) (K := K) g args hs
  have kp := fun x h h' K => ConW_num (h := h) (h' := h') (K := K) (r := .bool (p x)) (hp x) rfl
  refine Con_intro Try.func72 rfl ok72 (Nat.le_of_ble_eq_true rfl) rfl ?_
  simp only [Try.f72, Option.getD_some, initSt2]
  simp (disch := first | (simp only [go_sem, Bool.and_self, eq_self]; done) | omega | (simp only [List.length_cons, List.length_nil]; omega)) only [go_sem, ↓reduceIte, Nat.reduceEqDiff, Nat.reduceAdd, Nat.reduceMul, Nat.reduceSub, Int.reduceToNat, Nat.reduceBEq, List.size_toArray, List.length_cons, List.length_nil, Bool.false_and, Bool.true_and, Bool.or_false, Bool.false_or, Bool.and_false, Bool.and_true]
  refine WP_for 8 xs.length (fun i st h => st 0 = LI xs ∧ st 1 = .fn g [] ∧ st 7 = I xs.length ∧ ∀ j, j < i → p (nth xs j) = false) (by simp (disch := first | (simp only [go_sem, Bool.and_self, eq_self]; done) | omega | (simp only [List.length_cons, List.length_nil]; omega)) only [go_sem, ↓reduceIte, Nat.reduceEqDiff, Nat.reduceAdd, Nat.reduceMul, Nat.reduceSub, Int.reduceToNat, Nat.reduceBEq, List.size_toArray, List.length_cons, List.length_nil, Bool.false_and, Bool.true_and, Bool.or_false, Bool.false_or, Bool.and_false, Bool.and_true]) ⟨by simp (disch := first | (simp only [go_sem, Bool.and_self, eq_self]; done) | omega | (simp only [List.length_cons, List.length_nil]; omega)) only [go_sem, ↓reduceIte, Nat.reduceEqDiff, Nat.reduceAdd, Nat.reduceMul, Nat.reduceSub, Int.reduceToNat, Nat.reduceBEq, List.size_toArray, List.length_cons, List.length_nil, Bool.false_and, Bool.true_and, Bool.or_false, Bool.false_or, Bool.and_false, Bool.and_true], by simp (disch := first | (simp only [go_sem, Bool.and_self, eq_self]; done) | omega | (simp only [List.length_cons, List.length_nil]; omega)) only [go_sem, ↓reduceIte, Nat.reduceEqDiff, Nat.reduceAdd, Nat.reduceMul, Nat.reduceSub, Int.reduceToNat, Nat.reduceBEq, List.size_toArray, List.length_cons, List.length_nil, Bool.false_and, Bool.true_and, Bool.or_false, Bool.false_or, Bool.and_false, Bool.and_true], by simp (disch := first | (simp only [go_sem, Bool.and_self, eq_self]; done) | omega | (simp only [List.length_cons, List.length_nil]; omega)) only [go_sem, ↓reduceIte, Nat.reduceEqDiff, Nat.reduceAdd, Nat.reduceMul, Nat.reduceSub, Int.reduceToNat, Nat.reduceBEq, List.size_toArray, List.length_cons, List.length_nil, Bool.false_and, Bool.true_and, Bool.or_false, Bool.false_or, Bool.and_false, Bool.and_true], by omega⟩ ?_
  rintro i st h hi s8 ⟨s0, s1, s7, hj⟩
  by_cases hlt : i < xs.length
  case neg =>
    have : idxF p xs = -1 := by
      have : xs.findIdx? p = none := by
        rw [List.findIdx?_eq_none_iff]
        intro x hx
        obtain ⟨j, hj1, rfl⟩ := List.getElem_of_mem hx
        have := hj j (by omega)
        rwa [nth_getElem hj1] at this
      simp [idxF, this]
    simp (disch := first | (simp only [go_sem, Bool.and_self, eq_self]; done) | omega | (simp only [List.length_cons, List.length_nil]; omega)) only [go_sem, ↓reduceIte, Nat.reduceEqDiff, Nat.reduceAdd, Nat.reduceMul, Nat.reduceSub, Int.reduceToNat, Nat.reduceBEq, List.size_toArray, List.length_cons, List.length_nil, Bool.false_and, Bool.true_and, Bool.or_false, Bool.false_or, Bool.and_false, Bool.and_true, s0, s1, s7, s8, hlt, this]
  cases hpx : p (nth xs i) with
  | true =>
    have : idxF p xs = i := by
      have : xs.findIdx? p = some i := by
        rw [List.findIdx?_eq_some_iff_getElem]
        refine ⟨hlt, by rwa [nth_getElem hlt] at hpx, fun j hji => ?_⟩
        have := hj j hji
        rw [nth_getElem (by omega)] at this
        simp [this]
      simp [idxF, this]
    simp (disch := first | (simp only [go_sem, Bool.and_self, eq_self]; done) | omega | (simp only [List.length_cons, List.length_nil]; omega)) only [go_sem, ↓reduceIte, Nat.reduceEqDiff, Nat.reduceAdd, Nat.reduceMul, Nat.reduceSub, Int.reduceToNat, Nat.reduceBEq, List.size_toArray, List.length_cons, List.length_nil, Bool.false_and, Bool.true_and, Bool.or_false, Bool.false_or, Bool.and_false, Bool.and_true, s0, s1, s7, s8, hlt, kk, kp, hpx, this]
  | false =>
    simp (disch := first | (simp only [go_sem, Bool.and_self, eq_self]; done) | omega | (simp only [List.length_cons, List.length_nil]; omega)) only [go_sem, ↓reduceIte, Nat.reduceEqDiff, Nat.reduceAdd, Nat.reduceMul, Nat.reduceSub, Int.reduceToNat, Nat.reduceBEq, List.size_toArray, List.length_cons, List.length_nil, Bool.false_and, Bool.true_and, Bool.or_false, Bool.false_or, Bool.and_false, Bool.and_true, s0, s1, s7, s8, hlt, kk, kp, hpx]
    rw [ForK_normal]
    refine ⟨hlt, by simp (disch := first | (simp only [go_sem, Bool.and_self, eq_self]; done) | omega | (simp only [List.length_cons, List.length_nil]; omega)) only [go_sem, ↓reduceIte, Nat.reduceEqDiff, Nat.reduceAdd, Nat.reduceMul, Nat.reduceSub, Int.reduceToNat, Nat.reduceBEq, List.size_toArray, List.length_cons, List.length_nil, Bool.false_and, Bool.true_and, Bool.or_false, Bool.false_or, Bool.and_false, Bool.and_true, s8], by simp (disch := first | (simp only [go_sem, Bool.and_self, eq_self]; done) | omega | (simp only [List.length_cons, List.length_nil]; omega)) only [go_sem, ↓reduceIte, Nat.reduceEqDiff, Nat.reduceAdd, Nat.reduceMul, Nat.reduceSub, Int.reduceToNat, Nat.reduceBEq, List.size_toArray, List.length_cons, List.length_nil, Bool.false_and, Bool.true_and, Bool.or_false, Bool.false_or, Bool.and_false, Bool.and_true, s0], by simp (disch := first | (simp only [go_sem, Bool.and_self, eq_self]; done) | omega | (simp only [List.length_cons, List.length_nil]; omega)) only [go_sem, ↓reduceIte, Nat.reduceEqDiff, Nat.reduceAdd, Nat.reduceMul, Nat.reduceSub, Int.reduceToNat, Nat.reduceBEq, List.size_toArray, List.length_cons, List.length_nil, Bool.false_and, Bool.true_and, Bool.or_false, Bool.false_or, Bool.and_false, Bool.and_true, s1], by simp (disch := first | (simp only [go_sem, Bool.and_self, eq_self]; done) | omega | (simp only [List.length_cons, List.length_nil]; omega)) only [go_sem, ↓reduceIte, Nat.reduceEqDiff, Nat.reduceAdd, Nat.reduceMul, Nat.reduceSub, Int.reduceToNat, Nat.reduceBEq, List.size_toArray, List.length_cons, List.length_nil, Bool.false_and, Bool.true_and, Bool.or_false, Bool.false_or, Bool.and_false, Bool.and_true, s7], fun j hji => ?_⟩
    rcases Nat.lt_or_ge j i with h | h
    · exact hj j h
    · rwa [show j = i by omega]
theorem f47_con (g : FuncId) (hs : cfg.shared g = false) (p : Int → Bool) (hp : ∀ x, Con Try.prog cfg g [I x] (.bool (p x))) (xs : List Int) (hl : xs.length ≤ maxLen) : Con Try.prog cfg 47 [LI xs, .fn g []] (.bool (xs.any p)) := by
  have kk := fun h h' K => ConW_num (h := h) (h' := h') (K := K) (f72_con g hs p hp xs hl) rfl
  refine Con_intro Try.func47 rfl ok47 (Nat.le_of_ble_eq_true rfl) rfl ?_
  simp only [Try.f47, Option.getD_some, initSt2]
  have : decide (0 ≤ idxF p xs) = xs.any p := by
    unfold idxF
    cases hf : xs.findIdx? p with
    | none =>
      rw [List.findIdx?_eq_none_iff] at hf
      have : xs.any p = false := by rw [List.any_eq_false]; intro x hx; simp [hf x hx]
      simp [this]
    | some i =>
      rw [List.findIdx?_eq_some_iff_getElem] at hf
      obtain ⟨h1, h2, _⟩ := hf
      have : xs.any p = true := by rw [List.any_eq_true]; exact ⟨_, List.getElem_mem h1, h2⟩
      simp [this]
  have hsf : ∀ h : Hp, sealA h (.fn g []) = some (.fn g [], h) := fun _ => rfl
  simp (disch := first | (simp only [go_sem, Bool.and_self, eq_self]; done) | omega | (simp only [List.length_cons, List.length_nil]; omega)) only [go_sem, ↓reduceIte, Nat.reduceEqDiff, Nat.reduceAdd, Nat.reduceMul, Nat.reduceSub, Int.reduceToNat, Nat.reduceBEq, List.size_toArray, List.length_cons, List.length_nil, Bool.false_and, Bool.true_and, Bool.or_false, Bool.false_or, Bool.and_false, Bool.and_true, kk, this, hsf]

end Go.Proofs.Ytpkakapbepkfdaa

set_option linter.unusedVariables false
set_option linter.unusedSimpArgs false
set_option maxRecDepth 10000
namespace Go.Proofs.Ytpkakapbepkfdaa
open Go Go.Am

variable {h h' : Hp} {K : AV → Hp → Prop}

def okLL (a : List (List Int)) : Prop := a.length ≤ maxLen ∧ ∀ r ∈ a, r.length ≤ maxLen

theorem k47 (xs : List Int) (hl : xs.length ≤ maxLen) : ConW Try.prog cfg 47 h (some ([LI xs, .fn 71 []], h')) K = K (.bool (xs.any fun x => !inB x 0 16)) h :=
  ConW_num (f47_con 71 shr71 _ f71_con xs hl) rfl
theorem k47' (xs : List Int) (hl : xs.length ≤ maxLen) : ConW Try.prog cfg 47 h (some ([LI xs, .fn 48 []], h')) K = K (.bool (xs.any fun x => !inB x 0 1)) h :=
  ConW_num (f47_con 48 shr48 _ f48_con xs hl) rfl

/-- The parents of a variable: earlier ones, ascending. -/
def parB (r : List Int) (i j : Nat) : Bool := inB (nth r j) 0 ((i : Int) - 1) && (j == 0 || decide (nth r (j - 1) < nth r j))
def rowB (p t : List (List Int)) (i : Nat) : Bool :=
  decide ((nth p i).length ≤ 3) && decide ((nth t i).length = 2 ^ (nth p i).length) && (List.range (nth p i).length).all (parB (nth p i) i) && !(nth t i).any fun x => !inB x 0 16
def netB (p t : List (List Int)) : Bool := inB p.length 1 10 && decide (t.length = p.length) && (List.range p.length).all (rowB p t)

def netR (p t : List (List Int)) : AV := if netB p t then .tup [.agg [LLI p, LLI t, I p.length], I 0] else .tup [.agg [.nil, .nil, I 0], I 2]

theorem not_all_range {n i : Nat} {f : Nat → Bool} (hi : i < n) (h : f i = false) : (List.range n).all f = false := by
  rw [List.all_eq_false]; exact ⟨i, by simpa using hi, by simp [h]⟩
theorem all_range {n : Nat} {f : Nat → Bool} (h : ∀ i, i < n → f i = true) : (List.range n).all f = true := by
  rw [List.all_eq_true]; intro i hi; exact h i (by simpa using hi)

theorem netB_row {p t : List (List Int)} {i : Nat} (hi : i < p.length) (h : rowB p t i = false) : netR p t = .tup [.agg [.nil, .nil, I 0], I 2] := by
  simp only [netR, netB, not_all_range hi h, Bool.and_false, Bool.false_eq_true, if_false]

theorem f46_con (p t : List (List Int)) (hp : okLL p) (ht : okLL t) : Con Try.prog cfg 46 [.agg [LLI p, LLI t]] (netR p t) := by
  have ml : maxLen = 9223372036854775807 := by decide
  have hpl := hp.1
  have htl := ht.1
  refine Con_intro Try.func46 rfl ok46 (Nat.le_of_ble_eq_true rfl) rfl ?_
  simp only [Try.f46, Option.getD_some, initSt1]
  cases h1 : inB p.length 1 10 with
  | false =>
    have : netR p t = .tup [.agg [.nil, .nil, I 0], I 2] := by simp [netR, netB, h1]
    simp (disch := first | (simp only [go_sem, Bool.and_self, eq_self]; done) | omega | (simp only [List.length_cons, List.length_nil]; omega)) only [go_sem, ↓reduceIte, Nat.reduceEqDiff, Nat.reduceAdd, Nat.reduceMul, Nat.reduceSub, Int.reduceToNat, Nat.reduceBEq, List.size_toArray, List.length_cons, List.length_nil, Bool.false_and, Bool.true_and, Bool.or_false, Bool.false_or, Bool.and_false, Bool.and_true, h1, this]
  | true =>
  by_cases h2 : (t.length : Int) = p.length
  case neg =>
    have : netR p t = .tup [.agg [.nil, .nil, I 0], I 2] := by
      have : ¬ t.length = p.length := by omega
      simp [netR, netB, h1, this]
    simp (disch := first | (simp only [go_sem, Bool.and_self, eq_self]; done) | omega | (simp only [List.length_cons, List.length_nil]; omega)) only [go_sem, ↓reduceIte, Nat.reduceEqDiff, Nat.reduceAdd, Nat.reduceMul, Nat.reduceSub, Int.reduceToNat, Nat.reduceBEq, List.size_toArray, List.length_cons, List.length_nil, Bool.false_and, Bool.true_and, Bool.or_false, Bool.false_or, Bool.and_false, Bool.and_true, h1, h2, this]
  have h1' : 1 ≤ p.length ∧ p.length ≤ 10 := by simp only [inB, decide_eq_true_eq] at h1; omega
  have h2' : t.length = p.length := by omega
  simp (disch := first | (simp only [go_sem, Bool.and_self, eq_self]; done) | omega | (simp only [List.length_cons, List.length_nil]; omega)) only [go_sem, ↓reduceIte, Nat.reduceEqDiff, Nat.reduceAdd, Nat.reduceMul, Nat.reduceSub, Int.reduceToNat, Nat.reduceBEq, List.size_toArray, List.length_cons, List.length_nil, Bool.false_and, Bool.true_and, Bool.or_false, Bool.false_or, Bool.and_false, Bool.and_true, h1, h2]
  refine WP_for 26 p.length (fun i st h => st 1 = .ptr 0 0 ∧ st 2 = .ptr 1 0 ∧ st 4 = I p.length ∧ st 24 = LLI p ∧ st 25 = I p.length ∧ h.nx = 2 ∧ h.bl 0 = some (.cells false false [LLI p, LLI t]) ∧ h.bl 1 = some (.cells false false [.nil, .nil, I 0]) ∧ ∀ j, j < i → rowB p t j = true) (by simp (disch := first | (simp only [go_sem, Bool.and_self, eq_self]; done) | omega | (simp only [List.length_cons, List.length_nil]; omega)) only [go_sem, ↓reduceIte, Nat.reduceEqDiff, Nat.reduceAdd, Nat.reduceMul, Nat.reduceSub, Int.reduceToNat, Nat.reduceBEq, List.size_toArray, List.length_cons, List.length_nil, Bool.false_and, Bool.true_and, Bool.or_false, Bool.false_or, Bool.and_false, Bool.and_true]) ⟨by simp (disch := first | (simp only [go_sem, Bool.and_self, eq_self]; done) | omega | (simp only [List.length_cons, List.length_nil]; omega)) only [go_sem, ↓reduceIte, Nat.reduceEqDiff, Nat.reduceAdd, Nat.reduceMul, Nat.reduceSub, Int.reduceToNat, Nat.reduceBEq, List.size_toArray, List.length_cons, List.length_nil, Bool.false_and, Bool.true_and, Bool.or_false, Bool.false_or, Bool.and_false, Bool.and_true], by simp (disch := first | (simp only [go_sem, Bool.and_self, eq_self]; done) | omega | (simp only [List.length_cons, List.length_nil]; omega)) only [go_sem, ↓reduceIte, Nat.reduceEqDiff, Nat.reduceAdd, Nat.reduceMul, Nat.reduceSub, Int.reduceToNat, Nat.reduceBEq, List.size_toArray, List.length_cons, List.length_nil, Bool.false_and, Bool.true_and, Bool.or_false, Bool.false_or, Bool.and_false, Bool.and_true], by simp (disch := first | (simp only [go_sem, Bool.and_self, eq_self]; done) | omega | (simp only [List.length_cons, List.length_nil]; omega)) only [go_sem, ↓reduceIte, Nat.reduceEqDiff, Nat.reduceAdd, Nat.reduceMul, Nat.reduceSub, Int.reduceToNat, Nat.reduceBEq, List.size_toArray, List.length_cons, List.length_nil, Bool.false_and, Bool.true_and, Bool.or_false, Bool.false_or, Bool.and_false, Bool.and_true], by simp (disch := first | (simp only [go_sem, Bool.and_self, eq_self]; done) | omega | (simp only [List.length_cons, List.length_nil]; omega)) only [go_sem, ↓reduceIte, Nat.reduceEqDiff, Nat.reduceAdd, Nat.reduceMul, Nat.reduceSub, Int.reduceToNat, Nat.reduceBEq, List.size_toArray, List.length_cons, List.length_nil, Bool.false_and, Bool.true_and, Bool.or_false, Bool.false_or, Bool.and_false, Bool.and_true], by simp (disch := first | (simp only [go_sem, Bool.and_self, eq_self]; done) | omega | (simp only [List.length_cons, List.length_nil]; omega)) only [go_sem, ↓reduceIte, Nat.reduceEqDiff, Nat.reduceAdd, Nat.reduceMul, Nat.reduceSub, Int.reduceToNat, Nat.reduceBEq, List.size_toArray, List.length_cons, List.length_nil, Bool.false_and, Bool.true_and, Bool.or_false, Bool.false_or, Bool.and_false, Bool.and_true], by simp (disch := first | (simp only [go_sem, Bool.and_self, eq_self]; done) | omega | (simp only [List.length_cons, List.length_nil]; omega)) only [go_sem, ↓reduceIte, Nat.reduceEqDiff, Nat.reduceAdd, Nat.reduceMul, Nat.reduceSub, Int.reduceToNat, Nat.reduceBEq, List.size_toArray, List.length_cons, List.length_nil, Bool.false_and, Bool.true_and, Bool.or_false, Bool.false_or, Bool.and_false, Bool.and_true], by simp (disch := first | (simp only [go_sem, Bool.and_self, eq_self]; done) | omega | (simp only [List.length_cons, List.length_nil]; omega)) only [go_sem, ↓reduceIte, Nat.reduceEqDiff, Nat.reduceAdd, Nat.reduceMul, Nat.reduceSub, Int.reduceToNat, Nat.reduceBEq, List.size_toArray, List.length_cons, List.length_nil, Bool.false_and, Bool.true_and, Bool.or_false, Bool.false_or, Bool.and_false, Bool.and_true], by simp (disch := first | (simp only [go_sem, Bool.and_self, eq_self]; done) | omega | (simp only [List.length_cons, List.length_nil]; omega)) only [go_sem, ↓reduceIte, Nat.reduceEqDiff, Nat.reduceAdd, Nat.reduceMul, Nat.reduceSub, Int.reduceToNat, Nat.reduceBEq, List.size_toArray, List.length_cons, List.length_nil, Bool.false_and, Bool.true_and, Bool.or_false, Bool.false_or, Bool.and_false, Bool.and_true], by omega⟩ ?_
  rintro i st h hi s26 ⟨s1, s2, s4, s24, s25, bn, b0, b1, hn⟩
  by_cases hlt : i < p.length
  case neg =>
    have : netR p t = .tup [.agg [LLI p, LLI t, I p.length], I 0] := by
      simp only [netR, netB, h1, decide_eq_true h2', all_range (f := rowB p t) (n := p.length) fun j hj => hn j (by omega), Bool.and_true, if_true]
    simp (disch := first | (simp only [go_sem, Bool.and_self, eq_self]; done) | omega | (simp only [List.length_cons, List.length_nil]; omega)) only [go_sem, ↓reduceIte, Nat.reduceEqDiff, Nat.reduceAdd, Nat.reduceMul, Nat.reduceSub, Int.reduceToNat, Nat.reduceBEq, List.size_toArray, List.length_cons, List.length_nil, Bool.false_and, Bool.true_and, Bool.or_false, Bool.false_or, Bool.and_false, Bool.and_true, s1, s2, s4, s24, s25, s26, bn, b0, b1, hlt, this]
  have hlt2 : i < t.length := by omega
  have hrl : (nth p i).length ≤ maxLen := hp.2 _ (nth_mem hlt)
  have hrt : (nth t i).length ≤ maxLen := ht.2 _ (nth_mem hlt2)
  by_cases h3 : (3 : Int) < (nth p i).length
  · have q := netB_row hlt (t := t) (by simp only [rowB, decide_eq_false (show ¬ (nth p i).length ≤ 3 by omega), Bool.false_and])
    simp (disch := first | (simp only [go_sem, Bool.and_self, eq_self]; done) | omega | (simp only [List.length_cons, List.length_nil]; omega)) only [go_sem, ↓reduceIte, Nat.reduceEqDiff, Nat.reduceAdd, Nat.reduceMul, Nat.reduceSub, Int.reduceToNat, Nat.reduceBEq, List.size_toArray, List.length_cons, List.length_nil, Bool.false_and, Bool.true_and, Bool.or_false, Bool.false_or, Bool.and_false, Bool.and_true, s1, s2, s4, s24, s25, s26, bn, b0, b1, hlt, h3, q]
  have e1 := fun t => shl_one (P := Try.prog) t (nth p i).length (by omega)
  by_cases h4 : ((nth t i).length : Int) = ((2 ^ (nth p i).length : Nat) : Int)
  case neg =>
    have q := netB_row hlt (t := t) (by simp only [rowB, decide_eq_false (show ¬ (nth t i).length = 2 ^ (nth p i).length by omega), Bool.and_false, Bool.false_and])
    simp (disch := first | (simp only [go_sem, Bool.and_self, eq_self]; done) | omega | (simp only [List.length_cons, List.length_nil]; omega)) only [go_sem, ↓reduceIte, Nat.reduceEqDiff, Nat.reduceAdd, Nat.reduceMul, Nat.reduceSub, Int.reduceToNat, Nat.reduceBEq, List.size_toArray, List.length_cons, List.length_nil, Bool.false_and, Bool.true_and, Bool.or_false, Bool.false_or, Bool.and_false, Bool.and_true, s1, s2, s4, s24, s25, s26, bn, b0, b1, hlt, hlt2, h3, e1, h4, q]
  simp (disch := first | (simp only [go_sem, Bool.and_self, eq_self]; done) | omega | (simp only [List.length_cons, List.length_nil]; omega)) only [go_sem, ↓reduceIte, Nat.reduceEqDiff, Nat.reduceAdd, Nat.reduceMul, Nat.reduceSub, Int.reduceToNat, Nat.reduceBEq, List.size_toArray, List.length_cons, List.length_nil, Bool.false_and, Bool.true_and, Bool.or_false, Bool.false_or, Bool.and_false, Bool.and_true, s1, s2, s4, s24, s25, s26, bn, b0, b1, hlt, hlt2, h3, e1, h4]
  refine WP_cut (fun st h => st 1 = .ptr 0 0 ∧ st 2 = .ptr 1 0 ∧ st 4 = I p.length ∧ st 24 = LLI p ∧ st 25 = I p.length ∧ st 5 = I i ∧ st 6 = LI (nth p i) ∧ st 26 = I i ∧ h.nx = 2 ∧ h.bl 0 = some (.cells false false [LLI p, LLI t]) ∧ h.bl 1 = some (.cells false false [.nil, .nil, I 0]) ∧ ∀ j, j < (nth p i).length → parB (nth p i) i j = true) ?_ ?_
  · refine WP_for 49 (nth p i).length (fun k st h => st 1 = .ptr 0 0 ∧ st 2 = .ptr 1 0 ∧ st 4 = I p.length ∧ st 24 = LLI p ∧ st 25 = I p.length ∧ st 5 = I i ∧ st 6 = LI (nth p i) ∧ st 26 = I i ∧ st 47 = LI (nth p i) ∧ st 48 = I (nth p i).length ∧ h.nx = 2 ∧ h.bl 0 = some (.cells false false [LLI p, LLI t]) ∧ h.bl 1 = some (.cells false false [.nil, .nil, I 0]) ∧ ∀ j, j < k → parB (nth p i) i j = true) (by simp (disch := first | (simp only [go_sem, Bool.and_self, eq_self]; done) | omega | (simp only [List.length_cons, List.length_nil]; omega)) only [go_sem, ↓reduceIte, Nat.reduceEqDiff, Nat.reduceAdd, Nat.reduceMul, Nat.reduceSub, Int.reduceToNat, Nat.reduceBEq, List.size_toArray, List.length_cons, List.length_nil, Bool.false_and, Bool.true_and, Bool.or_false, Bool.false_or, Bool.and_false, Bool.and_true]) ⟨by simp (disch := first | (simp only [go_sem, Bool.and_self, eq_self]; done) | omega | (simp only [List.length_cons, List.length_nil]; omega)) only [go_sem, ↓reduceIte, Nat.reduceEqDiff, Nat.reduceAdd, Nat.reduceMul, Nat.reduceSub, Int.reduceToNat, Nat.reduceBEq, List.size_toArray, List.length_cons, List.length_nil, Bool.false_and, Bool.true_and, Bool.or_false, Bool.false_or, Bool.and_false, Bool.and_true, s1, s2, s4, s24, s25, s26, hlt], by simp (disch := first | (simp only [go_sem, Bool.and_self, eq_self]; done) | omega | (simp only [List.length_cons, List.length_nil]; omega)) only [go_sem, ↓reduceIte, Nat.reduceEqDiff, Nat.reduceAdd, Nat.reduceMul, Nat.reduceSub, Int.reduceToNat, Nat.reduceBEq, List.size_toArray, List.length_cons, List.length_nil, Bool.false_and, Bool.true_and, Bool.or_false, Bool.false_or, Bool.and_false, Bool.and_true, s1, s2, s4, s24, s25, s26, hlt], by simp (disch := first | (simp only [go_sem, Bool.and_self, eq_self]; done) | omega | (simp only [List.length_cons, List.length_nil]; omega)) only [go_sem, ↓reduceIte, Nat.reduceEqDiff, Nat.reduceAdd, Nat.reduceMul, Nat.reduceSub, Int.reduceToNat, Nat.reduceBEq, List.size_toArray, List.length_cons, List.length_nil, Bool.false_and, Bool.true_and, Bool.or_false, Bool.false_or, Bool.and_false, Bool.and_true, s1, s2, s4, s24, s25, s26, hlt], by simp (disch := first | (simp only [go_sem, Bool.and_self, eq_self]; done) | omega | (simp only [List.length_cons, List.length_nil]; omega)) only [go_sem, ↓reduceIte, Nat.reduceEqDiff, Nat.reduceAdd, Nat.reduceMul, Nat.reduceSub, Int.reduceToNat, Nat.reduceBEq, List.size_toArray, List.length_cons, List.length_nil, Bool.false_and, Bool.true_and, Bool.or_false, Bool.false_or, Bool.and_false, Bool.and_true, s1, s2, s4, s24, s25, s26, hlt], by simp (disch := first | (simp only [go_sem, Bool.and_self, eq_self]; done) | omega | (simp only [List.length_cons, List.length_nil]; omega)) only [go_sem, ↓reduceIte, Nat.reduceEqDiff, Nat.reduceAdd, Nat.reduceMul, Nat.reduceSub, Int.reduceToNat, Nat.reduceBEq, List.size_toArray, List.length_cons, List.length_nil, Bool.false_and, Bool.true_and, Bool.or_false, Bool.false_or, Bool.and_false, Bool.and_true, s1, s2, s4, s24, s25, s26, hlt], by simp (disch := first | (simp only [go_sem, Bool.and_self, eq_self]; done) | omega | (simp only [List.length_cons, List.length_nil]; omega)) only [go_sem, ↓reduceIte, Nat.reduceEqDiff, Nat.reduceAdd, Nat.reduceMul, Nat.reduceSub, Int.reduceToNat, Nat.reduceBEq, List.size_toArray, List.length_cons, List.length_nil, Bool.false_and, Bool.true_and, Bool.or_false, Bool.false_or, Bool.and_false, Bool.and_true, s1, s2, s4, s24, s25, s26, hlt], by simp (disch := first | (simp only [go_sem, Bool.and_self, eq_self]; done) | omega | (simp only [List.length_cons, List.length_nil]; omega)) only [go_sem, ↓reduceIte, Nat.reduceEqDiff, Nat.reduceAdd, Nat.reduceMul, Nat.reduceSub, Int.reduceToNat, Nat.reduceBEq, List.size_toArray, List.length_cons, List.length_nil, Bool.false_and, Bool.true_and, Bool.or_false, Bool.false_or, Bool.and_false, Bool.and_true, s1, s2, s4, s24, s25, s26, hlt], by simp (disch := first | (simp only [go_sem, Bool.and_self, eq_self]; done) | omega | (simp only [List.length_cons, List.length_nil]; omega)) only [go_sem, ↓reduceIte, Nat.reduceEqDiff, Nat.reduceAdd, Nat.reduceMul, Nat.reduceSub, Int.reduceToNat, Nat.reduceBEq, List.size_toArray, List.length_cons, List.length_nil, Bool.false_and, Bool.true_and, Bool.or_false, Bool.false_or, Bool.and_false, Bool.and_true, s1, s2, s4, s24, s25, s26, hlt], by simp (disch := first | (simp only [go_sem, Bool.and_self, eq_self]; done) | omega | (simp only [List.length_cons, List.length_nil]; omega)) only [go_sem, ↓reduceIte, Nat.reduceEqDiff, Nat.reduceAdd, Nat.reduceMul, Nat.reduceSub, Int.reduceToNat, Nat.reduceBEq, List.size_toArray, List.length_cons, List.length_nil, Bool.false_and, Bool.true_and, Bool.or_false, Bool.false_or, Bool.and_false, Bool.and_true, s1, s2, s4, s24, s25], by simp (disch := first | (simp only [go_sem, Bool.and_self, eq_self]; done) | omega | (simp only [List.length_cons, List.length_nil]; omega)) only [go_sem, ↓reduceIte, Nat.reduceEqDiff, Nat.reduceAdd, Nat.reduceMul, Nat.reduceSub, Int.reduceToNat, Nat.reduceBEq, List.size_toArray, List.length_cons, List.length_nil, Bool.false_and, Bool.true_and, Bool.or_false, Bool.false_or, Bool.and_false, Bool.and_true, s1, s2, s4, s24, s25], by simp (disch := first | (simp only [go_sem, Bool.and_self, eq_self]; done) | omega | (simp only [List.length_cons, List.length_nil]; omega)) only [go_sem, ↓reduceIte, Nat.reduceEqDiff, Nat.reduceAdd, Nat.reduceMul, Nat.reduceSub, Int.reduceToNat, Nat.reduceBEq, List.size_toArray, List.length_cons, List.length_nil, Bool.false_and, Bool.true_and, Bool.or_false, Bool.false_or, Bool.and_false, Bool.and_true, bn], by simp (disch := first | (simp only [go_sem, Bool.and_self, eq_self]; done) | omega | (simp only [List.length_cons, List.length_nil]; omega)) only [go_sem, ↓reduceIte, Nat.reduceEqDiff, Nat.reduceAdd, Nat.reduceMul, Nat.reduceSub, Int.reduceToNat, Nat.reduceBEq, List.size_toArray, List.length_cons, List.length_nil, Bool.false_and, Bool.true_and, Bool.or_false, Bool.false_or, Bool.and_false, Bool.and_true, b0], by simp (disch := first | (simp only [go_sem, Bool.and_self, eq_self]; done) | omega | (simp only [List.length_cons, List.length_nil]; omega)) only [go_sem, ↓reduceIte, Nat.reduceEqDiff, Nat.reduceAdd, Nat.reduceMul, Nat.reduceSub, Int.reduceToNat, Nat.reduceBEq, List.size_toArray, List.length_cons, List.length_nil, Bool.false_and, Bool.true_and, Bool.or_false, Bool.false_or, Bool.and_false, Bool.and_true, b1], by omega⟩ ?_
    rintro k st h hk s49 ⟨s1, s2, s4, s24, s25, s5, s6, s26, s47, s48, bn, b0, b1, hm⟩
    by_cases hkl : k < (nth p i).length
    case neg =>
      simp (disch := first | (simp only [go_sem, Bool.and_self, eq_self]; done) | omega | (simp only [List.length_cons, List.length_nil]; omega)) only [go_sem, ↓reduceIte, Nat.reduceEqDiff, Nat.reduceAdd, Nat.reduceMul, Nat.reduceSub, Int.reduceToNat, Nat.reduceBEq, List.size_toArray, List.length_cons, List.length_nil, Bool.false_and, Bool.true_and, Bool.or_false, Bool.false_or, Bool.and_false, Bool.and_true, s1, s2, s4, s24, s25, s5, s6, s26, s47, s48, s49, bn, b0, b1, hkl]
      exact fun j hj => hm j (by omega)
    have bad : parB (nth p i) i k = false → netR p t = .tup [.agg [.nil, .nil, I 0], I 2] := fun hb =>
      netB_row hlt (t := t) (by simp only [rowB, not_all_range hkl hb, Bool.and_false, Bool.false_and])
    cases h5 : inB (nth (nth p i) k) 0 ((i : Int) - 1) with
    | false =>
      have q := bad (by simp only [parB, h5, Bool.false_and])
      simp (disch := first | (simp only [go_sem, Bool.and_self, eq_self]; done) | omega | (simp only [List.length_cons, List.length_nil]; omega)) only [go_sem, ↓reduceIte, Nat.reduceEqDiff, Nat.reduceAdd, Nat.reduceMul, Nat.reduceSub, Int.reduceToNat, Nat.reduceBEq, List.size_toArray, List.length_cons, List.length_nil, Bool.false_and, Bool.true_and, Bool.or_false, Bool.false_or, Bool.and_false, Bool.and_true, s1, s2, s4, s24, s25, s5, s6, s26, s47, s48, s49, bn, b0, b1, hkl, h5, q]
    | true =>
    by_cases h6 : (0 : Int) < k
    case neg =>
      have hk0 : k = 0 := by omega
      subst hk0
      simp (disch := first | (simp only [go_sem, Bool.and_self, eq_self]; done) | omega | (simp only [List.length_cons, List.length_nil]; omega)) only [go_sem, ↓reduceIte, Nat.reduceEqDiff, Nat.reduceAdd, Nat.reduceMul, Nat.reduceSub, Int.reduceToNat, Nat.reduceBEq, List.size_toArray, List.length_cons, List.length_nil, Bool.false_and, Bool.true_and, Bool.or_false, Bool.false_or, Bool.and_false, Bool.and_true, s1, s2, s4, s24, s25, s5, s6, s26, s47, s48, s49, bn, b0, b1, hkl, h5, h6]
      rw [ForK_normal]
      refine ⟨hkl, by simp (disch := first | (simp only [go_sem, Bool.and_self, eq_self]; done) | omega | (simp only [List.length_cons, List.length_nil]; omega)) only [go_sem, ↓reduceIte, Nat.reduceEqDiff, Nat.reduceAdd, Nat.reduceMul, Nat.reduceSub, Int.reduceToNat, Nat.reduceBEq, List.size_toArray, List.length_cons, List.length_nil, Bool.false_and, Bool.true_and, Bool.or_false, Bool.false_or, Bool.and_false, Bool.and_true, s49], by simp (disch := first | (simp only [go_sem, Bool.and_self, eq_self]; done) | omega | (simp only [List.length_cons, List.length_nil]; omega)) only [go_sem, ↓reduceIte, Nat.reduceEqDiff, Nat.reduceAdd, Nat.reduceMul, Nat.reduceSub, Int.reduceToNat, Nat.reduceBEq, List.size_toArray, List.length_cons, List.length_nil, Bool.false_and, Bool.true_and, Bool.or_false, Bool.false_or, Bool.and_false, Bool.and_true, s1], by simp (disch := first | (simp only [go_sem, Bool.and_self, eq_self]; done) | omega | (simp only [List.length_cons, List.length_nil]; omega)) only [go_sem, ↓reduceIte, Nat.reduceEqDiff, Nat.reduceAdd, Nat.reduceMul, Nat.reduceSub, Int.reduceToNat, Nat.reduceBEq, List.size_toArray, List.length_cons, List.length_nil, Bool.false_and, Bool.true_and, Bool.or_false, Bool.false_or, Bool.and_false, Bool.and_true, s2], by simp (disch := first | (simp only [go_sem, Bool.and_self, eq_self]; done) | omega | (simp only [List.length_cons, List.length_nil]; omega)) only [go_sem, ↓reduceIte, Nat.reduceEqDiff, Nat.reduceAdd, Nat.reduceMul, Nat.reduceSub, Int.reduceToNat, Nat.reduceBEq, List.size_toArray, List.length_cons, List.length_nil, Bool.false_and, Bool.true_and, Bool.or_false, Bool.false_or, Bool.and_false, Bool.and_true, s4], by simp (disch := first | (simp only [go_sem, Bool.and_self, eq_self]; done) | omega | (simp only [List.length_cons, List.length_nil]; omega)) only [go_sem, ↓reduceIte, Nat.reduceEqDiff, Nat.reduceAdd, Nat.reduceMul, Nat.reduceSub, Int.reduceToNat, Nat.reduceBEq, List.size_toArray, List.length_cons, List.length_nil, Bool.false_and, Bool.true_and, Bool.or_false, Bool.false_or, Bool.and_false, Bool.and_true, s24], by simp (disch := first | (simp only [go_sem, Bool.and_self, eq_self]; done) | omega | (simp only [List.length_cons, List.length_nil]; omega)) only [go_sem, ↓reduceIte, Nat.reduceEqDiff, Nat.reduceAdd, Nat.reduceMul, Nat.reduceSub, Int.reduceToNat, Nat.reduceBEq, List.size_toArray, List.length_cons, List.length_nil, Bool.false_and, Bool.true_and, Bool.or_false, Bool.false_or, Bool.and_false, Bool.and_true, s25], by simp (disch := first | (simp only [go_sem, Bool.and_self, eq_self]; done) | omega | (simp only [List.length_cons, List.length_nil]; omega)) only [go_sem, ↓reduceIte, Nat.reduceEqDiff, Nat.reduceAdd, Nat.reduceMul, Nat.reduceSub, Int.reduceToNat, Nat.reduceBEq, List.size_toArray, List.length_cons, List.length_nil, Bool.false_and, Bool.true_and, Bool.or_false, Bool.false_or, Bool.and_false, Bool.and_true, s5], by simp (disch := first | (simp only [go_sem, Bool.and_self, eq_self]; done) | omega | (simp only [List.length_cons, List.length_nil]; omega)) only [go_sem, ↓reduceIte, Nat.reduceEqDiff, Nat.reduceAdd, Nat.reduceMul, Nat.reduceSub, Int.reduceToNat, Nat.reduceBEq, List.size_toArray, List.length_cons, List.length_nil, Bool.false_and, Bool.true_and, Bool.or_false, Bool.false_or, Bool.and_false, Bool.and_true, s6], by simp (disch := first | (simp only [go_sem, Bool.and_self, eq_self]; done) | omega | (simp only [List.length_cons, List.length_nil]; omega)) only [go_sem, ↓reduceIte, Nat.reduceEqDiff, Nat.reduceAdd, Nat.reduceMul, Nat.reduceSub, Int.reduceToNat, Nat.reduceBEq, List.size_toArray, List.length_cons, List.length_nil, Bool.false_and, Bool.true_and, Bool.or_false, Bool.false_or, Bool.and_false, Bool.and_true, s26], by simp (disch := first | (simp only [go_sem, Bool.and_self, eq_self]; done) | omega | (simp only [List.length_cons, List.length_nil]; omega)) only [go_sem, ↓reduceIte, Nat.reduceEqDiff, Nat.reduceAdd, Nat.reduceMul, Nat.reduceSub, Int.reduceToNat, Nat.reduceBEq, List.size_toArray, List.length_cons, List.length_nil, Bool.false_and, Bool.true_and, Bool.or_false, Bool.false_or, Bool.and_false, Bool.and_true, s47], by simp (disch := first | (simp only [go_sem, Bool.and_self, eq_self]; done) | omega | (simp only [List.length_cons, List.length_nil]; omega)) only [go_sem, ↓reduceIte, Nat.reduceEqDiff, Nat.reduceAdd, Nat.reduceMul, Nat.reduceSub, Int.reduceToNat, Nat.reduceBEq, List.size_toArray, List.length_cons, List.length_nil, Bool.false_and, Bool.true_and, Bool.or_false, Bool.false_or, Bool.and_false, Bool.and_true, s48], by simp (disch := first | (simp only [go_sem, Bool.and_self, eq_self]; done) | omega | (simp only [List.length_cons, List.length_nil]; omega)) only [go_sem, ↓reduceIte, Nat.reduceEqDiff, Nat.reduceAdd, Nat.reduceMul, Nat.reduceSub, Int.reduceToNat, Nat.reduceBEq, List.size_toArray, List.length_cons, List.length_nil, Bool.false_and, Bool.true_and, Bool.or_false, Bool.false_or, Bool.and_false, Bool.and_true, bn], by simp (disch := first | (simp only [go_sem, Bool.and_self, eq_self]; done) | omega | (simp only [List.length_cons, List.length_nil]; omega)) only [go_sem, ↓reduceIte, Nat.reduceEqDiff, Nat.reduceAdd, Nat.reduceMul, Nat.reduceSub, Int.reduceToNat, Nat.reduceBEq, List.size_toArray, List.length_cons, List.length_nil, Bool.false_and, Bool.true_and, Bool.or_false, Bool.false_or, Bool.and_false, Bool.and_true, b0], by simp (disch := first | (simp only [go_sem, Bool.and_self, eq_self]; done) | omega | (simp only [List.length_cons, List.length_nil]; omega)) only [go_sem, ↓reduceIte, Nat.reduceEqDiff, Nat.reduceAdd, Nat.reduceMul, Nat.reduceSub, Int.reduceToNat, Nat.reduceBEq, List.size_toArray, List.length_cons, List.length_nil, Bool.false_and, Bool.true_and, Bool.or_false, Bool.false_or, Bool.and_false, Bool.and_true, b1], fun j hj => ?_⟩
      rw [show j = 0 by omega]
      simp only [parB, h5, beq_self_eq_true, Bool.true_or, Bool.and_self]
    have hk1 : ((k : Int) - 1).toNat = k - 1 := by omega
    by_cases h7 : nth (nth p i) k ≤ nth (nth p i) (k - 1)
    · have q := bad (by simp only [parB, decide_eq_false (show ¬ nth (nth p i) (k - 1) < nth (nth p i) k by omega), show (k == 0) = false by simp; omega, Bool.or_false, Bool.and_false])
      simp (disch := first | (simp only [go_sem, Bool.and_self, eq_self]; done) | omega | (simp only [List.length_cons, List.length_nil]; omega)) only [go_sem, ↓reduceIte, Nat.reduceEqDiff, Nat.reduceAdd, Nat.reduceMul, Nat.reduceSub, Int.reduceToNat, Nat.reduceBEq, List.size_toArray, List.length_cons, List.length_nil, Bool.false_and, Bool.true_and, Bool.or_false, Bool.false_or, Bool.and_false, Bool.and_true, s1, s2, s4, s24, s25, s5, s6, s26, s47, s48, s49, bn, b0, b1, hkl, h5, h6, hk1, h7, q]
    simp (disch := first | (simp only [go_sem, Bool.and_self, eq_self]; done) | omega | (simp only [List.length_cons, List.length_nil]; omega)) only [go_sem, ↓reduceIte, Nat.reduceEqDiff, Nat.reduceAdd, Nat.reduceMul, Nat.reduceSub, Int.reduceToNat, Nat.reduceBEq, List.size_toArray, List.length_cons, List.length_nil, Bool.false_and, Bool.true_and, Bool.or_false, Bool.false_or, Bool.and_false, Bool.and_true, s1, s2, s4, s24, s25, s5, s6, s26, s47, s48, s49, bn, b0, b1, hkl, h5, h6, hk1, h7]
    rw [ForK_normal]
    refine ⟨hkl, by simp (disch := first | (simp only [go_sem, Bool.and_self, eq_self]; done) | omega | (simp only [List.length_cons, List.length_nil]; omega)) only [go_sem, ↓reduceIte, Nat.reduceEqDiff, Nat.reduceAdd, Nat.reduceMul, Nat.reduceSub, Int.reduceToNat, Nat.reduceBEq, List.size_toArray, List.length_cons, List.length_nil, Bool.false_and, Bool.true_and, Bool.or_false, Bool.false_or, Bool.and_false, Bool.and_true, s49], by simp (disch := first | (simp only [go_sem, Bool.and_self, eq_self]; done) | omega | (simp only [List.length_cons, List.length_nil]; omega)) only [go_sem, ↓reduceIte, Nat.reduceEqDiff, Nat.reduceAdd, Nat.reduceMul, Nat.reduceSub, Int.reduceToNat, Nat.reduceBEq, List.size_toArray, List.length_cons, List.length_nil, Bool.false_and, Bool.true_and, Bool.or_false, Bool.false_or, Bool.and_false, Bool.and_true, s1], by simp (disch := first | (simp only [go_sem, Bool.and_self, eq_self]; done) | omega | (simp only [List.length_cons, List.length_nil]; omega)) only [go_sem, ↓reduceIte, Nat.reduceEqDiff, Nat.reduceAdd, Nat.reduceMul, Nat.reduceSub, Int.reduceToNat, Nat.reduceBEq, List.size_toArray, List.length_cons, List.length_nil, Bool.false_and, Bool.true_and, Bool.or_false, Bool.false_or, Bool.and_false, Bool.and_true, s2], by simp (disch := first | (simp only [go_sem, Bool.and_self, eq_self]; done) | omega | (simp only [List.length_cons, List.length_nil]; omega)) only [go_sem, ↓reduceIte, Nat.reduceEqDiff, Nat.reduceAdd, Nat.reduceMul, Nat.reduceSub, Int.reduceToNat, Nat.reduceBEq, List.size_toArray, List.length_cons, List.length_nil, Bool.false_and, Bool.true_and, Bool.or_false, Bool.false_or, Bool.and_false, Bool.and_true, s4], by simp (disch := first | (simp only [go_sem, Bool.and_self, eq_self]; done) | omega | (simp only [List.length_cons, List.length_nil]; omega)) only [go_sem, ↓reduceIte, Nat.reduceEqDiff, Nat.reduceAdd, Nat.reduceMul, Nat.reduceSub, Int.reduceToNat, Nat.reduceBEq, List.size_toArray, List.length_cons, List.length_nil, Bool.false_and, Bool.true_and, Bool.or_false, Bool.false_or, Bool.and_false, Bool.and_true, s24], by simp (disch := first | (simp only [go_sem, Bool.and_self, eq_self]; done) | omega | (simp only [List.length_cons, List.length_nil]; omega)) only [go_sem, ↓reduceIte, Nat.reduceEqDiff, Nat.reduceAdd, Nat.reduceMul, Nat.reduceSub, Int.reduceToNat, Nat.reduceBEq, List.size_toArray, List.length_cons, List.length_nil, Bool.false_and, Bool.true_and, Bool.or_false, Bool.false_or, Bool.and_false, Bool.and_true, s25], by simp (disch := first | (simp only [go_sem, Bool.and_self, eq_self]; done) | omega | (simp only [List.length_cons, List.length_nil]; omega)) only [go_sem, ↓reduceIte, Nat.reduceEqDiff, Nat.reduceAdd, Nat.reduceMul, Nat.reduceSub, Int.reduceToNat, Nat.reduceBEq, List.size_toArray, List.length_cons, List.length_nil, Bool.false_and, Bool.true_and, Bool.or_false, Bool.false_or, Bool.and_false, Bool.and_true, s5], by simp (disch := first | (simp only [go_sem, Bool.and_self, eq_self]; done) | omega | (simp only [List.length_cons, List.length_nil]; omega)) only [go_sem, ↓reduceIte, Nat.reduceEqDiff, Nat.reduceAdd, Nat.reduceMul, Nat.reduceSub, Int.reduceToNat, Nat.reduceBEq, List.size_toArray, List.length_cons, List.length_nil, Bool.false_and, Bool.true_and, Bool.or_false, Bool.false_or, Bool.and_false, Bool.and_true, s6], by simp (disch := first | (simp only [go_sem, Bool.and_self, eq_self]; done) | omega | (simp only [List.length_cons, List.length_nil]; omega)) only [go_sem, ↓reduceIte, Nat.reduceEqDiff, Nat.reduceAdd, Nat.reduceMul, Nat.reduceSub, Int.reduceToNat, Nat.reduceBEq, List.size_toArray, List.length_cons, List.length_nil, Bool.false_and, Bool.true_and, Bool.or_false, Bool.false_or, Bool.and_false, Bool.and_true, s26], by simp (disch := first | (simp only [go_sem, Bool.and_self, eq_self]; done) | omega | (simp only [List.length_cons, List.length_nil]; omega)) only [go_sem, ↓reduceIte, Nat.reduceEqDiff, Nat.reduceAdd, Nat.reduceMul, Nat.reduceSub, Int.reduceToNat, Nat.reduceBEq, List.size_toArray, List.length_cons, List.length_nil, Bool.false_and, Bool.true_and, Bool.or_false, Bool.false_or, Bool.and_false, Bool.and_true, s47], by simp (disch := first | (simp only [go_sem, Bool.and_self, eq_self]; done) | omega | (simp only [List.length_cons, List.length_nil]; omega)) only [go_sem, ↓reduceIte, Nat.reduceEqDiff, Nat.reduceAdd, Nat.reduceMul, Nat.reduceSub, Int.reduceToNat, Nat.reduceBEq, List.size_toArray, List.length_cons, List.length_nil, Bool.false_and, Bool.true_and, Bool.or_false, Bool.false_or, Bool.and_false, Bool.and_true, s48], by simp (disch := first | (simp only [go_sem, Bool.and_self, eq_self]; done) | omega | (simp only [List.length_cons, List.length_nil]; omega)) only [go_sem, ↓reduceIte, Nat.reduceEqDiff, Nat.reduceAdd, Nat.reduceMul, Nat.reduceSub, Int.reduceToNat, Nat.reduceBEq, List.size_toArray, List.length_cons, List.length_nil, Bool.false_and, Bool.true_and, Bool.or_false, Bool.false_or, Bool.and_false, Bool.and_true, bn], by simp (disch := first | (simp only [go_sem, Bool.and_self, eq_self]; done) | omega | (simp only [List.length_cons, List.length_nil]; omega)) only [go_sem, ↓reduceIte, Nat.reduceEqDiff, Nat.reduceAdd, Nat.reduceMul, Nat.reduceSub, Int.reduceToNat, Nat.reduceBEq, List.size_toArray, List.length_cons, List.length_nil, Bool.false_and, Bool.true_and, Bool.or_false, Bool.false_or, Bool.and_false, Bool.and_true, b0], by simp (disch := first | (simp only [go_sem, Bool.and_self, eq_self]; done) | omega | (simp only [List.length_cons, List.length_nil]; omega)) only [go_sem, ↓reduceIte, Nat.reduceEqDiff, Nat.reduceAdd, Nat.reduceMul, Nat.reduceSub, Int.reduceToNat, Nat.reduceBEq, List.size_toArray, List.length_cons, List.length_nil, Bool.false_and, Bool.true_and, Bool.or_false, Bool.false_or, Bool.and_false, Bool.and_true, b1], fun j hj => ?_⟩
    rcases Nat.lt_or_ge j k with h | h
    · exact hm j h
    · rw [show j = k by omega]
      simp only [parB, h5, decide_eq_true (show nth (nth p i) (k - 1) < nth (nth p i) k by omega), Bool.or_true, Bool.and_self]
  · rintro st h ⟨s1, s2, s4, s24, s25, s5, s6, s26, bn, b0, b1, hpar⟩
    have hsf : ∀ h : Hp, sealA h (.fn 71 []) = some (.fn 71 [], h) := fun _ => rfl
    have kk := fun h h' K => k47 (h := h) (h' := h') (K := K) (nth t i) hrt
    cases h8 : (nth t i).any (fun x => !inB x 0 16) with
    | true =>
      have q := netB_row hlt (t := t) (by simp only [rowB, h8, Bool.not_true, Bool.and_false])
      simp (disch := first | (simp only [go_sem, Bool.and_self, eq_self]; done) | omega | (simp only [List.length_cons, List.length_nil]; omega)) only [go_sem, ↓reduceIte, Nat.reduceEqDiff, Nat.reduceAdd, Nat.reduceMul, Nat.reduceSub, Int.reduceToNat, Nat.reduceBEq, List.size_toArray, List.length_cons, List.length_nil, Bool.false_and, Bool.true_and, Bool.or_false, Bool.false_or, Bool.and_false, Bool.and_true, s1, s2, s4, s24, s25, s5, s6, s26, bn, b0, b1, hlt, hlt2, kk, hsf, h8, q]
    | false =>
      simp (disch := first | (simp only [go_sem, Bool.and_self, eq_self]; done) | omega | (simp only [List.length_cons, List.length_nil]; omega)) only [go_sem, ↓reduceIte, Nat.reduceEqDiff, Nat.reduceAdd, Nat.reduceMul, Nat.reduceSub, Int.reduceToNat, Nat.reduceBEq, List.size_toArray, List.length_cons, List.length_nil, Bool.false_and, Bool.true_and, Bool.or_false, Bool.false_or, Bool.and_false, Bool.and_true, s1, s2, s4, s24, s25, s5, s6, s26, bn, b0, b1, hlt, hlt2, kk, hsf, h8]
      rw [ForK_normal]
      refine ⟨hlt, by simp (disch := first | (simp only [go_sem, Bool.and_self, eq_self]; done) | omega | (simp only [List.length_cons, List.length_nil]; omega)) only [go_sem, ↓reduceIte, Nat.reduceEqDiff, Nat.reduceAdd, Nat.reduceMul, Nat.reduceSub, Int.reduceToNat, Nat.reduceBEq, List.size_toArray, List.length_cons, List.length_nil, Bool.false_and, Bool.true_and, Bool.or_false, Bool.false_or, Bool.and_false, Bool.and_true, s1, s2, s4, s24, s25, s5, s6, s26], by simp (disch := first | (simp only [go_sem, Bool.and_self, eq_self]; done) | omega | (simp only [List.length_cons, List.length_nil]; omega)) only [go_sem, ↓reduceIte, Nat.reduceEqDiff, Nat.reduceAdd, Nat.reduceMul, Nat.reduceSub, Int.reduceToNat, Nat.reduceBEq, List.size_toArray, List.length_cons, List.length_nil, Bool.false_and, Bool.true_and, Bool.or_false, Bool.false_or, Bool.and_false, Bool.and_true, s1, s2, s4, s24, s25, s5, s6, s26], by simp (disch := first | (simp only [go_sem, Bool.and_self, eq_self]; done) | omega | (simp only [List.length_cons, List.length_nil]; omega)) only [go_sem, ↓reduceIte, Nat.reduceEqDiff, Nat.reduceAdd, Nat.reduceMul, Nat.reduceSub, Int.reduceToNat, Nat.reduceBEq, List.size_toArray, List.length_cons, List.length_nil, Bool.false_and, Bool.true_and, Bool.or_false, Bool.false_or, Bool.and_false, Bool.and_true, s1, s2, s4, s24, s25, s5, s6, s26], by simp (disch := first | (simp only [go_sem, Bool.and_self, eq_self]; done) | omega | (simp only [List.length_cons, List.length_nil]; omega)) only [go_sem, ↓reduceIte, Nat.reduceEqDiff, Nat.reduceAdd, Nat.reduceMul, Nat.reduceSub, Int.reduceToNat, Nat.reduceBEq, List.size_toArray, List.length_cons, List.length_nil, Bool.false_and, Bool.true_and, Bool.or_false, Bool.false_or, Bool.and_false, Bool.and_true, s1, s2, s4, s24, s25, s5, s6, s26], by simp (disch := first | (simp only [go_sem, Bool.and_self, eq_self]; done) | omega | (simp only [List.length_cons, List.length_nil]; omega)) only [go_sem, ↓reduceIte, Nat.reduceEqDiff, Nat.reduceAdd, Nat.reduceMul, Nat.reduceSub, Int.reduceToNat, Nat.reduceBEq, List.size_toArray, List.length_cons, List.length_nil, Bool.false_and, Bool.true_and, Bool.or_false, Bool.false_or, Bool.and_false, Bool.and_true, s1, s2, s4, s24, s25, s5, s6, s26], by simp (disch := first | (simp only [go_sem, Bool.and_self, eq_self]; done) | omega | (simp only [List.length_cons, List.length_nil]; omega)) only [go_sem, ↓reduceIte, Nat.reduceEqDiff, Nat.reduceAdd, Nat.reduceMul, Nat.reduceSub, Int.reduceToNat, Nat.reduceBEq, List.size_toArray, List.length_cons, List.length_nil, Bool.false_and, Bool.true_and, Bool.or_false, Bool.false_or, Bool.and_false, Bool.and_true, s1, s2, s4, s24, s25, s5, s6, s26], by simp (disch := first | (simp only [go_sem, Bool.and_self, eq_self]; done) | omega | (simp only [List.length_cons, List.length_nil]; omega)) only [go_sem, ↓reduceIte, Nat.reduceEqDiff, Nat.reduceAdd, Nat.reduceMul, Nat.reduceSub, Int.reduceToNat, Nat.reduceBEq, List.size_toArray, List.length_cons, List.length_nil, Bool.false_and, Bool.true_and, Bool.or_false, Bool.false_or, Bool.and_false, Bool.and_true, bn], by simp (disch := first | (simp only [go_sem, Bool.and_self, eq_self]; done) | omega | (simp only [List.length_cons, List.length_nil]; omega)) only [go_sem, ↓reduceIte, Nat.reduceEqDiff, Nat.reduceAdd, Nat.reduceMul, Nat.reduceSub, Int.reduceToNat, Nat.reduceBEq, List.size_toArray, List.length_cons, List.length_nil, Bool.false_and, Bool.true_and, Bool.or_false, Bool.false_or, Bool.and_false, Bool.and_true, b0], by simp (disch := first | (simp only [go_sem, Bool.and_self, eq_self]; done) | omega | (simp only [List.length_cons, List.length_nil]; omega)) only [go_sem, ↓reduceIte, Nat.reduceEqDiff, Nat.reduceAdd, Nat.reduceMul, Nat.reduceSub, Int.reduceToNat, Nat.reduceBEq, List.size_toArray, List.length_cons, List.length_nil, Bool.false_and, Bool.true_and, Bool.or_false, Bool.false_or, Bool.and_false, Bool.and_true, b1], fun j hj => ?_⟩
      rcases Nat.lt_or_ge j i with h | h
      · exact hn j h
      · rw [show j = i by omega]
        simp only [rowB, decide_eq_true (show (nth p i).length ≤ 3 by omega), decide_eq_true (show (nth t i).length = 2 ^ (nth p i).length by omega), all_range hpar, h8, Bool.not_false, Bool.and_self]

theorem k46 (p t : List (List Int)) (hp : okLL p) (ht : okLL t) : ConW Try.prog cfg 46 h (some ([.agg [LLI p, LLI t]], h')) K = K (netR p t) h' := by
  rw [ConW_any (f46_con p t hp ht) (by unfold netR; split <;> rfl)]
  unfold netR; split <;> rfl

end Go.Proofs.Ytpkakapbepkfdaa

set_option linter.unusedVariables false
set_option linter.unusedSimpArgs false
set_option maxRecDepth 10000
namespace Go.Proofs.Ytpkakapbepkfdaa
open Go Go.Am

variable {h h' : Hp} {K : AV → Hp → Prop}

theorem pow16_le {i n : Nat} (hi : i ≤ n) (hn : n ≤ 10) : (16 : Int) ^ i ≤ 1099511627776 := by
  have h : (16 : Nat) ^ i ≤ 16 ^ 10 := Nat.pow_le_pow_right (by decide) (by omega)
  have h2 : ((16 ^ i : Nat) : Int) ≤ ((16 ^ 10 : Nat) : Int) := Int.ofNat_le.2 h
  rw [Int.natCast_pow] at h2
  simpa using h2
theorem pow16_pos (i : Nat) : (0 : Int) < 16 ^ i := Int.pow_pos (by decide)

theorem f52_con (p t : List (List Int)) (n : Nat) (hn : n ≤ 10) : Con Try.prog cfg 52 [.agg [LLI p, LLI t, I n]] (I (16 ^ n)) := by
  refine Con_intro Try.func52 rfl ok52 (Nat.le_of_ble_eq_true rfl) rfl ?_
  simp only [Try.f52, Option.getD_some, initSt1]
  simp (disch := first | (simp only [go_sem, Bool.and_self, eq_self]; done) | omega | (simp only [List.length_cons, List.length_nil]; omega)) only [go_sem, ↓reduceIte, Nat.reduceEqDiff, Nat.reduceAdd, Nat.reduceMul, Nat.reduceSub, Int.reduceToNat, Nat.reduceBEq, List.size_toArray, List.length_cons, List.length_nil, Bool.false_and, Bool.true_and, Bool.or_false, Bool.false_or, Bool.and_false, Bool.and_true]
  refine WP_for 6 n (fun i st h => st 1 = .ptr 0 0 ∧ st 5 = I n ∧ st 3 = I (16 ^ i)) (by simp (disch := first | (simp only [go_sem, Bool.and_self, eq_self]; done) | omega | (simp only [List.length_cons, List.length_nil]; omega)) only [go_sem, ↓reduceIte, Nat.reduceEqDiff, Nat.reduceAdd, Nat.reduceMul, Nat.reduceSub, Int.reduceToNat, Nat.reduceBEq, List.size_toArray, List.length_cons, List.length_nil, Bool.false_and, Bool.true_and, Bool.or_false, Bool.false_or, Bool.and_false, Bool.and_true]) ⟨by simp (disch := first | (simp only [go_sem, Bool.and_self, eq_self]; done) | omega | (simp only [List.length_cons, List.length_nil]; omega)) only [go_sem, ↓reduceIte, Nat.reduceEqDiff, Nat.reduceAdd, Nat.reduceMul, Nat.reduceSub, Int.reduceToNat, Nat.reduceBEq, List.size_toArray, List.length_cons, List.length_nil, Bool.false_and, Bool.true_and, Bool.or_false, Bool.false_or, Bool.and_false, Bool.and_true], by simp (disch := first | (simp only [go_sem, Bool.and_self, eq_self]; done) | omega | (simp only [List.length_cons, List.length_nil]; omega)) only [go_sem, ↓reduceIte, Nat.reduceEqDiff, Nat.reduceAdd, Nat.reduceMul, Nat.reduceSub, Int.reduceToNat, Nat.reduceBEq, List.size_toArray, List.length_cons, List.length_nil, Bool.false_and, Bool.true_and, Bool.or_false, Bool.false_or, Bool.and_false, Bool.and_true], by simp (disch := first | (simp only [go_sem, Bool.and_self, eq_self]; done) | omega | (simp only [List.length_cons, List.length_nil]; omega)) only [go_sem, ↓reduceIte, Nat.reduceEqDiff, Nat.reduceAdd, Nat.reduceMul, Nat.reduceSub, Int.reduceToNat, Nat.reduceBEq, List.size_toArray, List.length_cons, List.length_nil, Bool.false_and, Bool.true_and, Bool.or_false, Bool.false_or, Bool.and_false, Bool.and_true]; simp⟩ ?_
  rintro i st h hi s6 ⟨s1, s5, s3⟩
  have e1 := pow16_le hi hn
  have e2 := pow16_pos i
  by_cases hlt : i < n
  case neg =>
    have : i = n := by omega
    subst this
    simp (disch := first | (simp only [go_sem, Bool.and_self, eq_self]; done) | omega | (simp only [List.length_cons, List.length_nil]; omega)) only [go_sem, ↓reduceIte, Nat.reduceEqDiff, Nat.reduceAdd, Nat.reduceMul, Nat.reduceSub, Int.reduceToNat, Nat.reduceBEq, List.size_toArray, List.length_cons, List.length_nil, Bool.false_and, Bool.true_and, Bool.or_false, Bool.false_or, Bool.and_false, Bool.and_true, s1, s5, s3, s6, hlt]
  have e3 := pow16_le (i := i + 1) (n := n) (by omega) hn
  have e4 : (16 : Int) ^ i * 16 = 16 ^ (i + 1) := (Int.pow_succ _ _).symm
  simp (disch := first | (simp only [go_sem, Bool.and_self, eq_self]; done) | omega | (simp only [List.length_cons, List.length_nil]; omega)) only [go_sem, ↓reduceIte, Nat.reduceEqDiff, Nat.reduceAdd, Nat.reduceMul, Nat.reduceSub, Int.reduceToNat, Nat.reduceBEq, List.size_toArray, List.length_cons, List.length_nil, Bool.false_and, Bool.true_and, Bool.or_false, Bool.false_or, Bool.and_false, Bool.and_true, s1, s5, s3, s6, hlt, e4]
  rw [ForK_normal]
  exact ⟨hlt, by simp (disch := first | (simp only [go_sem, Bool.and_self, eq_self]; done) | omega | (simp only [List.length_cons, List.length_nil]; omega)) only [go_sem, ↓reduceIte, Nat.reduceEqDiff, Nat.reduceAdd, Nat.reduceMul, Nat.reduceSub, Int.reduceToNat, Nat.reduceBEq, List.size_toArray, List.length_cons, List.length_nil, Bool.false_and, Bool.true_and, Bool.or_false, Bool.false_or, Bool.and_false, Bool.and_true, s6], by simp (disch := first | (simp only [go_sem, Bool.and_self, eq_self]; done) | omega | (simp only [List.length_cons, List.length_nil]; omega)) only [go_sem, ↓reduceIte, Nat.reduceEqDiff, Nat.reduceAdd, Nat.reduceMul, Nat.reduceSub, Int.reduceToNat, Nat.reduceBEq, List.size_toArray, List.length_cons, List.length_nil, Bool.false_and, Bool.true_and, Bool.or_false, Bool.false_or, Bool.and_false, Bool.and_true, s1], by simp (disch := first | (simp only [go_sem, Bool.and_self, eq_self]; done) | omega | (simp only [List.length_cons, List.length_nil]; omega)) only [go_sem, ↓reduceIte, Nat.reduceEqDiff, Nat.reduceAdd, Nat.reduceMul, Nat.reduceSub, Int.reduceToNat, Nat.reduceBEq, List.size_toArray, List.length_cons, List.length_nil, Bool.false_and, Bool.true_and, Bool.or_false, Bool.false_or, Bool.and_false, Bool.and_true, s5], by simp (disch := first | (simp only [go_sem, Bool.and_self, eq_self]; done) | omega | (simp only [List.length_cons, List.length_nil]; omega)) only [go_sem, ↓reduceIte, Nat.reduceEqDiff, Nat.reduceAdd, Nat.reduceMul, Nat.reduceSub, Int.reduceToNat, Nat.reduceBEq, List.size_toArray, List.length_cons, List.length_nil, Bool.false_and, Bool.true_and, Bool.or_false, Bool.false_or, Bool.and_false, Bool.and_true]⟩
theorem k52 (p t : List (List Int)) (n : Nat) (hn : n ≤ 10) : ConW Try.prog cfg 52 h (some ([.agg [LLI p, LLI t, I n]], h')) K = K (I (16 ^ n)) h := ConW_num (f52_con p t n hn) rfl

/-- Euclid's steps. -/
def gcdI (a b : Int) : Int := (Int.gcd a b : Int)
theorem gcdI_step {a b : Int} (ha : 0 ≤ a) (hb : 0 < b) : gcdI b (a.tmod b) = gcdI a b := by
  obtain ⟨x, rfl⟩ := Int.eq_ofNat_of_zero_le ha
  obtain ⟨y, rfl⟩ := Int.eq_ofNat_of_zero_le (Int.le_of_lt hb)
  rw [Int.tmod_eq_emod_of_nonneg ha, ← Int.natCast_emod]
  unfold gcdI
  rw [Int.gcd_natCast_natCast, Int.gcd_natCast_natCast, Nat.gcd_comm x y, Nat.gcd_rec y x, Nat.gcd_comm]
theorem gcdI_zero {a : Int} (ha : 0 ≤ a) : gcdI a 0 = a := by
  unfold gcdI; rw [Int.gcd_zero_right]; omega
theorem gcdI_pos {a b : Int} (hb : 0 < b) : 0 < gcdI a b := by
  unfold gcdI
  have : Int.gcd a b ≠ 0 := by rw [Ne, Int.gcd_eq_zero_iff]; omega
  omega
theorem gcdI_le {a b : Int} (hb : 0 < b) : gcdI a b ≤ b := Int.le_of_dvd hb (Int.gcd_dvd_right a b)
/-- A fraction, reduced. -/
def redu (a b : Int) : AV := .agg [I (a / gcdI a b), I (b / gcdI a b)]
@[go_sem] theorem redu_def (a b : Int) : redu a b = .agg [I (a / gcdI a b), I (b / gcdI a b)] := rfl
theorem div_bounds {a g : Int} (ha : 0 ≤ a) (hg : 0 < g) : 0 ≤ a / g ∧ a / g ≤ a := ⟨Int.ediv_nonneg ha (by omega), Int.ediv_le_self _ ha⟩
theorem f50_con (a b : Int) (ha : 0 ≤ a ∧ a ≤ 4611686018427387904) (hb : 0 < b ∧ b ≤ 4611686018427387904) : Con Try.prog cfg 50 [I a, I b] (redu a b) := by
  have hg := gcdI_pos (a := a) hb.1
  refine Con_intro Try.func50 rfl ok50 (Nat.le_of_ble_eq_true rfl) rfl ?_
  simp only [Try.f50, Option.getD_some, initSt2]
  have e1 : max a (0 - a) = a := by omega
  simp (disch := first | (simp only [go_sem, Bool.and_self, eq_self]; done) | omega | (simp only [List.length_cons, List.length_nil]; omega)) only [go_sem, ↓reduceIte, Nat.reduceEqDiff, Nat.reduceAdd, Nat.reduceMul, Nat.reduceSub, Int.reduceToNat, Nat.reduceBEq, List.size_toArray, List.length_cons, List.length_nil, Bool.false_and, Bool.true_and, Bool.or_false, Bool.false_or, Bool.and_false, Bool.and_true, e1]
  refine WP_cut (fun st h => st 0 = I a ∧ st 1 = I b ∧ st 4 = .ptr 0 0 ∧ st 5 = I (gcdI a b) ∧ h.nx = 1 ∧ h.bl 0 = some (.cells false false [I 0, I 0])) ?_ ?_
  · refine WP_loopK (fun m st h => ∃ x y : Int, m = y.toNat ∧ 0 ≤ x ∧ x ≤ 4611686018427387904 ∧ 0 ≤ y ∧ y ≤ 4611686018427387904 ∧ gcdI x y = gcdI a b ∧ st 0 = I a ∧ st 1 = I b ∧ st 4 = .ptr 0 0 ∧ st 5 = I x ∧ st 6 = I y ∧ h.nx = 1 ∧ h.bl 0 = some (.cells false false [I 0, I 0])) b.toNat
      ⟨a, b, rfl, ha.1, ha.2, by omega, hb.2, rfl, by simp (disch := first | (simp only [go_sem, Bool.and_self, eq_self]; done) | omega | (simp only [List.length_cons, List.length_nil]; omega)) only [go_sem, ↓reduceIte, Nat.reduceEqDiff, Nat.reduceAdd, Nat.reduceMul, Nat.reduceSub, Int.reduceToNat, Nat.reduceBEq, List.size_toArray, List.length_cons, List.length_nil, Bool.false_and, Bool.true_and, Bool.or_false, Bool.false_or, Bool.and_false, Bool.and_true], by simp (disch := first | (simp only [go_sem, Bool.and_self, eq_self]; done) | omega | (simp only [List.length_cons, List.length_nil]; omega)) only [go_sem, ↓reduceIte, Nat.reduceEqDiff, Nat.reduceAdd, Nat.reduceMul, Nat.reduceSub, Int.reduceToNat, Nat.reduceBEq, List.size_toArray, List.length_cons, List.length_nil, Bool.false_and, Bool.true_and, Bool.or_false, Bool.false_or, Bool.and_false, Bool.and_true], by simp (disch := first | (simp only [go_sem, Bool.and_self, eq_self]; done) | omega | (simp only [List.length_cons, List.length_nil]; omega)) only [go_sem, ↓reduceIte, Nat.reduceEqDiff, Nat.reduceAdd, Nat.reduceMul, Nat.reduceSub, Int.reduceToNat, Nat.reduceBEq, List.size_toArray, List.length_cons, List.length_nil, Bool.false_and, Bool.true_and, Bool.or_false, Bool.false_or, Bool.and_false, Bool.and_true], by simp (disch := first | (simp only [go_sem, Bool.and_self, eq_self]; done) | omega | (simp only [List.length_cons, List.length_nil]; omega)) only [go_sem, ↓reduceIte, Nat.reduceEqDiff, Nat.reduceAdd, Nat.reduceMul, Nat.reduceSub, Int.reduceToNat, Nat.reduceBEq, List.size_toArray, List.length_cons, List.length_nil, Bool.false_and, Bool.true_and, Bool.or_false, Bool.false_or, Bool.and_false, Bool.and_true], by simp (disch := first | (simp only [go_sem, Bool.and_self, eq_self]; done) | omega | (simp only [List.length_cons, List.length_nil]; omega)) only [go_sem, ↓reduceIte, Nat.reduceEqDiff, Nat.reduceAdd, Nat.reduceMul, Nat.reduceSub, Int.reduceToNat, Nat.reduceBEq, List.size_toArray, List.length_cons, List.length_nil, Bool.false_and, Bool.true_and, Bool.or_false, Bool.false_or, Bool.and_false, Bool.and_true], by simp (disch := first | (simp only [go_sem, Bool.and_self, eq_self]; done) | omega | (simp only [List.length_cons, List.length_nil]; omega)) only [go_sem, ↓reduceIte, Nat.reduceEqDiff, Nat.reduceAdd, Nat.reduceMul, Nat.reduceSub, Int.reduceToNat, Nat.reduceBEq, List.size_toArray, List.length_cons, List.length_nil, Bool.false_and, Bool.true_and, Bool.or_false, Bool.false_or, Bool.and_false, Bool.and_true], by simp (disch := first | (simp only [go_sem, Bool.and_self, eq_self]; done) | omega | (simp only [List.length_cons, List.length_nil]; omega)) only [go_sem, ↓reduceIte, Nat.reduceEqDiff, Nat.reduceAdd, Nat.reduceMul, Nat.reduceSub, Int.reduceToNat, Nat.reduceBEq, List.size_toArray, List.length_cons, List.length_nil, Bool.false_and, Bool.true_and, Bool.or_false, Bool.false_or, Bool.and_false, Bool.and_true]⟩ ?_
    rintro n st h ⟨x, y, rfl, hx0, hx1, hy0, hy1, hgg, s0, s1, s4, s5, s6, bn, b0⟩
    by_cases hy : y = 0
    · subst hy
      rw [gcdI_zero hx0] at hgg
      subst hgg
      simp (disch := first | (simp only [go_sem, Bool.and_self, eq_self]; done) | omega | (simp only [List.length_cons, List.length_nil]; omega)) only [go_sem, ↓reduceIte, Nat.reduceEqDiff, Nat.reduceAdd, Nat.reduceMul, Nat.reduceSub, Int.reduceToNat, Nat.reduceBEq, List.size_toArray, List.length_cons, List.length_nil, Bool.false_and, Bool.true_and, Bool.or_false, Bool.false_or, Bool.and_false, Bool.and_true, s0, s1, s4, s5, s6, bn, b0]
    have hm0 : 0 ≤ x.tmod y := Int.tmod_nonneg y hx0
    have hm1 : x.tmod y < y := Int.tmod_lt_of_pos x (by omega)
    simp (disch := first | (simp only [go_sem, Bool.and_self, eq_self]; done) | omega | (simp only [List.length_cons, List.length_nil]; omega)) only [go_sem, ↓reduceIte, Nat.reduceEqDiff, Nat.reduceAdd, Nat.reduceMul, Nat.reduceSub, Int.reduceToNat, Nat.reduceBEq, List.size_toArray, List.length_cons, List.length_nil, Bool.false_and, Bool.true_and, Bool.or_false, Bool.false_or, Bool.and_false, Bool.and_true, s0, s1, s4, s5, s6, bn, b0, hy]
    rw [LoopK_normal]
    exact ⟨(x.tmod y).toNat, by omega, y, x.tmod y, rfl, by omega, by omega, hm0, by omega, (gcdI_step hx0 (by omega)).trans hgg, by simp (disch := first | (simp only [go_sem, Bool.and_self, eq_self]; done) | omega | (simp only [List.length_cons, List.length_nil]; omega)) only [go_sem, ↓reduceIte, Nat.reduceEqDiff, Nat.reduceAdd, Nat.reduceMul, Nat.reduceSub, Int.reduceToNat, Nat.reduceBEq, List.size_toArray, List.length_cons, List.length_nil, Bool.false_and, Bool.true_and, Bool.or_false, Bool.false_or, Bool.and_false, Bool.and_true, s0], by simp (disch := first | (simp only [go_sem, Bool.and_self, eq_self]; done) | omega | (simp only [List.length_cons, List.length_nil]; omega)) only [go_sem, ↓reduceIte, Nat.reduceEqDiff, Nat.reduceAdd, Nat.reduceMul, Nat.reduceSub, Int.reduceToNat, Nat.reduceBEq, List.size_toArray, List.length_cons, List.length_nil, Bool.false_and, Bool.true_and, Bool.or_false, Bool.false_or, Bool.and_false, Bool.and_true, s1], by simp (disch := first | (simp only [go_sem, Bool.and_self, eq_self]; done) | omega | (simp only [List.length_cons, List.length_nil]; omega)) only [go_sem, ↓reduceIte, Nat.reduceEqDiff, Nat.reduceAdd, Nat.reduceMul, Nat.reduceSub, Int.reduceToNat, Nat.reduceBEq, List.size_toArray, List.length_cons, List.length_nil, Bool.false_and, Bool.true_and, Bool.or_false, Bool.false_or, Bool.and_false, Bool.and_true, s4], by simp (disch := first | (simp only [go_sem, Bool.and_self, eq_self]; done) | omega | (simp only [List.length_cons, List.length_nil]; omega)) only [go_sem, ↓reduceIte, Nat.reduceEqDiff, Nat.reduceAdd, Nat.reduceMul, Nat.reduceSub, Int.reduceToNat, Nat.reduceBEq, List.size_toArray, List.length_cons, List.length_nil, Bool.false_and, Bool.true_and, Bool.or_false, Bool.false_or, Bool.and_false, Bool.and_true], by simp (disch := first | (simp only [go_sem, Bool.and_self, eq_self]; done) | omega | (simp only [List.length_cons, List.length_nil]; omega)) only [go_sem, ↓reduceIte, Nat.reduceEqDiff, Nat.reduceAdd, Nat.reduceMul, Nat.reduceSub, Int.reduceToNat, Nat.reduceBEq, List.size_toArray, List.length_cons, List.length_nil, Bool.false_and, Bool.true_and, Bool.or_false, Bool.false_or, Bool.and_false, Bool.and_true], by simp (disch := first | (simp only [go_sem, Bool.and_self, eq_self]; done) | omega | (simp only [List.length_cons, List.length_nil]; omega)) only [go_sem, ↓reduceIte, Nat.reduceEqDiff, Nat.reduceAdd, Nat.reduceMul, Nat.reduceSub, Int.reduceToNat, Nat.reduceBEq, List.size_toArray, List.length_cons, List.length_nil, Bool.false_and, Bool.true_and, Bool.or_false, Bool.false_or, Bool.and_false, Bool.and_true, bn], by simp (disch := first | (simp only [go_sem, Bool.and_self, eq_self]; done) | omega | (simp only [List.length_cons, List.length_nil]; omega)) only [go_sem, ↓reduceIte, Nat.reduceEqDiff, Nat.reduceAdd, Nat.reduceMul, Nat.reduceSub, Int.reduceToNat, Nat.reduceBEq, List.size_toArray, List.length_cons, List.length_nil, Bool.false_and, Bool.true_and, Bool.or_false, Bool.false_or, Bool.and_false, Bool.and_true, b0]⟩
  · rintro st h ⟨s0, s1, s4, s5, bn, b0⟩
    have d1 := div_bounds ha.1 hg
    have d2 := div_bounds (Int.le_of_lt hb.1) hg
    have t1 : a.tdiv (gcdI a b) = a / gcdI a b := Int.tdiv_eq_ediv_of_nonneg ha.1
    have t2 : b.tdiv (gcdI a b) = b / gcdI a b := Int.tdiv_eq_ediv_of_nonneg (Int.le_of_lt hb.1)
    have g0 : ¬ gcdI a b = 0 := by omega
    simp (disch := first | (simp only [go_sem, Bool.and_self, eq_self]; done) | omega | (simp only [List.length_cons, List.length_nil]; omega)) only [go_sem, ↓reduceIte, Nat.reduceEqDiff, Nat.reduceAdd, Nat.reduceMul, Nat.reduceSub, Int.reduceToNat, Nat.reduceBEq, List.size_toArray, List.length_cons, List.length_nil, Bool.false_and, Bool.true_and, Bool.or_false, Bool.false_or, Bool.and_false, Bool.and_true, s0, s1, s4, s5, bn, b0, t1, t2, g0]
    rfl
theorem k50 (a b : Int) (ha : 0 ≤ a ∧ a ≤ 4611686018427387904) (hb : 0 < b ∧ b ≤ 4611686018427387904) : ConW Try.prog cfg 50 h (some ([I a, I b], h')) K = K (redu a b) h := ConW_num (f50_con a b ha hb) rfl

end Go.Proofs.Ytpkakapbepkfdaa

set_option linter.unusedVariables false
set_option linter.unusedSimpArgs false
set_option maxRecDepth 10000
namespace Go.Proofs.Ytpkakapbepkfdaa
open Go Go.Am

variable {h h' : Hp} {K : AV → Hp → Prop}

/-- What a network's checks come to. -/
structure Net (p t : List (List Int)) : Prop where
  n1 : 1 ≤ p.length ∧ p.length ≤ 10
  tl : t.length = p.length
  pl : ∀ i, i < p.length → (nth p i).length ≤ 3
  tt : ∀ i, i < p.length → (nth t i).length = 2 ^ (nth p i).length
  par : ∀ i j, i < p.length → j < (nth p i).length → 0 ≤ nth (nth p i) j ∧ nth (nth p i) j < i
  asc : ∀ i j, i < p.length → j + 1 < (nth p i).length → nth (nth p i) j < nth (nth p i) (j + 1)
  ent : ∀ i j, i < p.length → j < (nth t i).length → 0 ≤ nth (nth t i) j ∧ nth (nth t i) j ≤ 16
theorem range_all {n : Nat} {f : Nat → Bool} (h : (List.range n).all f = true) {i : Nat} (hi : i < n) : f i = true := List.all_eq_true.1 h i (by simpa using hi)
theorem Net.of {p t : List (List Int)} (h : netB p t = true) : Net p t := by
  simp only [netB, inB, Bool.and_eq_true, decide_eq_true_eq] at h
  obtain ⟨⟨h1, h2⟩, h3⟩ := h
  have hr : ∀ i, i < p.length → ((nth p i).length ≤ 3 ∧ (nth t i).length = 2 ^ (nth p i).length) ∧ (List.range (nth p i).length).all (parB (nth p i) i) = true ∧ (nth t i).any (fun x => !inB x 0 16) = false := by
    intro i hi
    have := range_all h3 hi
    simp only [rowB, Bool.and_eq_true, decide_eq_true_eq, Bool.not_eq_true'] at this
    exact ⟨this.1.1, this.1.2, this.2⟩
  have hpar : ∀ i j, i < p.length → j < (nth p i).length → (0 ≤ nth (nth p i) j ∧ nth (nth p i) j ≤ (i : Int) - 1) ∧ (j = 0 ∨ nth (nth p i) (j - 1) < nth (nth p i) j) := by
    intro i j hi hj
    have := range_all (hr i hi).2.1 hj
    simp only [parB, inB, Bool.and_eq_true, Bool.or_eq_true, decide_eq_true_eq, beq_iff_eq] at this
    exact this
  refine ⟨by omega, h2, fun i hi => (hr i hi).1.1, fun i hi => (hr i hi).1.2, fun i j hi hj => ?_, fun i j hi hj => ?_, fun i j hi hj => ?_⟩
  · have := (hpar i j hi hj).1; omega
  · rcases (hpar i (j + 1) hi hj).2 with h | h
    · omega
    · simpa using h
  · have := (hr i hi).2.2
    rw [List.any_eq_false] at this
    have := this _ (nth_mem hj)
    simp only [inB, Bool.not_eq_true', decide_eq_false_iff_not, Bool.not_eq_eq_eq_not, Bool.not_true, Decidable.not_not] at this
    exact this

/-- Which row of the table: the values of the parents as bits. -/
def caseF (r v : List Int) : Nat → Nat
  | 0 => 0
  | j + 1 => caseF r v j + if nth v (nth r j).toNat = 1 then 2 ^ j else 0
theorem caseF_lt (r v : List Int) : ∀ j, caseF r v j < 2 ^ j
  | 0 => by simp [caseF]
  | j + 1 => by have := caseF_lt r v j; simp only [caseF, Nat.pow_succ]; split <;> omega
/-- The probability of a variable's value, in sixteenths. -/
def wt (p t : List (List Int)) (v : List Int) (i : Nat) : Int :=
  let q := nth (nth t i) (caseF (nth p i) v (nth p i).length)
  if nth v i = 0 then 16 - q else q
def weightB (p t : List (List Int)) (v : List Int) (n : Nat) : Int := prodN (wt p t v) n
theorem wt_bounds {p t : List (List Int)} (N : Net p t) (v : List Int) {i : Nat} (hi : i < p.length) : 0 ≤ wt p t v i ∧ wt p t v i ≤ 16 := by
  have h1 := caseF_lt (nth p i) v (nth p i).length
  have := N.ent i _ hi (by rw [N.tt i hi]; exact h1)
  simp only [wt]; split <;> omega
theorem weight_bounds {p t : List (List Int)} (N : Net p t) (v : List Int) : ∀ {n : Nat}, n ≤ p.length → 0 ≤ weightB p t v n ∧ weightB p t v n ≤ 16 ^ n
  | 0, _ => by simp [weightB, prodN]
  | n + 1, hn => by
    obtain ⟨h1, h2⟩ := weight_bounds N v (n := n) (by omega)
    obtain ⟨h3, h4⟩ := wt_bounds N v (i := n) (by omega)
    rw [weightB, prodN]
    refine ⟨Int.mul_nonneg h1 h3, ?_⟩
    rw [Int.pow_succ]
    exact Int.mul_le_mul h2 h4 h3 (Int.le_trans h1 h2)

/-- A row of ten values, of which n count. -/
structure Vals (v : List Int) (n : Nat) : Prop where
  len : v.length = 10
  bit : ∀ i, i < n → nth v i = 0 ∨ nth v i = 1

theorem allocB_flat (v : List Int) : allocB h (some (.agg (v.flatMap (e1 I)))) = some (.ptr h.nx 0, h.alloc (.cells false false (v.flatMap (e1 I)))) := by
  refine allocB_agg _ (List.all_eq_true.2 fun x hx => ?_)
  obtain ⟨a, _, ha⟩ := List.mem_flatMap.1 hx
  simp only [e1, List.mem_singleton] at ha
  subst ha; rfl
theorem pureL_flat (v : List Int) : AV.pureL (v.flatMap (e1 I)) = true := by
  induction v with
  | nil => rfl
  | cons x xs ih => rw [List.flatMap_cons, pureL_append, ih]; rfl
@[go_sem] theorem sealA_flat (v : List Int) : sealA h (.agg (v.flatMap (e1 I))) = some (.agg (v.flatMap (e1 I)), h) := sealA_agg _ (pureL_flat v)
theorem or_pow {x j : Nat} (h : x < 2 ^ j) : x ||| 2 ^ j = x + 2 ^ j := by
  have := Nat.two_pow_add_eq_or_of_lt h 1
  rw [Nat.mul_one] at this
  rw [Nat.or_comm, ← this, Nat.add_comm]

theorem f51_con (p t : List (List Int)) (N : Net p t) (v : List Int) (hv : Vals v p.length) : Con Try.prog cfg 51 [.agg [LLI p, LLI t, I p.length], .agg (v.flatMap (e1 I))] (I (weightB p t v p.length)) := by
  have hal := fun h => allocB_flat (h := h) v
  have hn1 := N.n1
  have htl := N.tl
  have hvl := hv.len
  have hfl : (v.flatMap (e1 I)).length = 10 := by rw [flat_len, hvl]
  refine Con_intro Try.func51 rfl ok51 (Nat.le_of_ble_eq_true rfl) rfl ?_
  simp only [Try.f51, Option.getD_some, initSt2]
  simp (disch := first | (simp only [go_sem, Bool.and_self, eq_self]; done) | omega | (simp only [List.length_cons, List.length_nil]; omega)) only [go_sem, ↓reduceIte, Nat.reduceEqDiff, Nat.reduceAdd, Nat.reduceMul, Nat.reduceSub, Int.reduceToNat, Nat.reduceBEq, List.size_toArray, List.length_cons, List.length_nil, Bool.false_and, Bool.true_and, Bool.or_false, Bool.false_or, Bool.and_false, Bool.and_true, hal]
  refine WP_for 13 p.length (fun i st h => st 2 = .ptr 0 0 ∧ st 3 = .ptr 1 0 ∧ st 12 = I p.length ∧ st 5 = I (weightB p t v i) ∧ h.nx = 2 ∧ h.bl 0 = some (.cells false false [LLI p, LLI t, I p.length]) ∧ h.bl 1 = some (.cells false false (v.flatMap (e1 I)))) (by simp (disch := first | (simp only [go_sem, Bool.and_self, eq_self]; done) | omega | (simp only [List.length_cons, List.length_nil]; omega)) only [go_sem, ↓reduceIte, Nat.reduceEqDiff, Nat.reduceAdd, Nat.reduceMul, Nat.reduceSub, Int.reduceToNat, Nat.reduceBEq, List.size_toArray, List.length_cons, List.length_nil, Bool.false_and, Bool.true_and, Bool.or_false, Bool.false_or, Bool.and_false, Bool.and_true]) ⟨by simp (disch := first | (simp only [go_sem, Bool.and_self, eq_self]; done) | omega | (simp only [List.length_cons, List.length_nil]; omega)) only [go_sem, ↓reduceIte, Nat.reduceEqDiff, Nat.reduceAdd, Nat.reduceMul, Nat.reduceSub, Int.reduceToNat, Nat.reduceBEq, List.size_toArray, List.length_cons, List.length_nil, Bool.false_and, Bool.true_and, Bool.or_false, Bool.false_or, Bool.and_false, Bool.and_true], by simp (disch := first | (simp only [go_sem, Bool.and_self, eq_self]; done) | omega | (simp only [List.length_cons, List.length_nil]; omega)) only [go_sem, ↓reduceIte, Nat.reduceEqDiff, Nat.reduceAdd, Nat.reduceMul, Nat.reduceSub, Int.reduceToNat, Nat.reduceBEq, List.size_toArray, List.length_cons, List.length_nil, Bool.false_and, Bool.true_and, Bool.or_false, Bool.false_or, Bool.and_false, Bool.and_true], by simp (disch := first | (simp only [go_sem, Bool.and_self, eq_self]; done) | omega | (simp only [List.length_cons, List.length_nil]; omega)) only [go_sem, ↓reduceIte, Nat.reduceEqDiff, Nat.reduceAdd, Nat.reduceMul, Nat.reduceSub, Int.reduceToNat, Nat.reduceBEq, List.size_toArray, List.length_cons, List.length_nil, Bool.false_and, Bool.true_and, Bool.or_false, Bool.false_or, Bool.and_false, Bool.and_true], by simp (disch := first | (simp only [go_sem, Bool.and_self, eq_self]; done) | omega | (simp only [List.length_cons, List.length_nil]; omega)) only [go_sem, ↓reduceIte, Nat.reduceEqDiff, Nat.reduceAdd, Nat.reduceMul, Nat.reduceSub, Int.reduceToNat, Nat.reduceBEq, List.size_toArray, List.length_cons, List.length_nil, Bool.false_and, Bool.true_and, Bool.or_false, Bool.false_or, Bool.and_false, Bool.and_true]; rfl, by simp (disch := first | (simp only [go_sem, Bool.and_self, eq_self]; done) | omega | (simp only [List.length_cons, List.length_nil]; omega)) only [go_sem, ↓reduceIte, Nat.reduceEqDiff, Nat.reduceAdd, Nat.reduceMul, Nat.reduceSub, Int.reduceToNat, Nat.reduceBEq, List.size_toArray, List.length_cons, List.length_nil, Bool.false_and, Bool.true_and, Bool.or_false, Bool.false_or, Bool.and_false, Bool.and_true], by simp (disch := first | (simp only [go_sem, Bool.and_self, eq_self]; done) | omega | (simp only [List.length_cons, List.length_nil]; omega)) only [go_sem, ↓reduceIte, Nat.reduceEqDiff, Nat.reduceAdd, Nat.reduceMul, Nat.reduceSub, Int.reduceToNat, Nat.reduceBEq, List.size_toArray, List.length_cons, List.length_nil, Bool.false_and, Bool.true_and, Bool.or_false, Bool.false_or, Bool.and_false, Bool.and_true], by simp (disch := first | (simp only [go_sem, Bool.and_self, eq_self]; done) | omega | (simp only [List.length_cons, List.length_nil]; omega)) only [go_sem, ↓reduceIte, Nat.reduceEqDiff, Nat.reduceAdd, Nat.reduceMul, Nat.reduceSub, Int.reduceToNat, Nat.reduceBEq, List.size_toArray, List.length_cons, List.length_nil, Bool.false_and, Bool.true_and, Bool.or_false, Bool.false_or, Bool.and_false, Bool.and_true]⟩ ?_
  rintro i st h hi s13 ⟨s2, s3, s12, s5, bn, b0, b1⟩
  by_cases hlt : i < p.length
  case neg =>
    have : i = p.length := by omega
    subst this
    simp (disch := first | (simp only [go_sem, Bool.and_self, eq_self]; done) | omega | (simp only [List.length_cons, List.length_nil]; omega)) only [go_sem, ↓reduceIte, Nat.reduceEqDiff, Nat.reduceAdd, Nat.reduceMul, Nat.reduceSub, Int.reduceToNat, Nat.reduceBEq, List.size_toArray, List.length_cons, List.length_nil, Bool.false_and, Bool.true_and, Bool.or_false, Bool.false_or, Bool.and_false, Bool.and_true, s2, s3, s12, s5, s13, hlt]
  have hpl := N.pl i hlt
  simp (disch := first | (simp only [go_sem, Bool.and_self, eq_self]; done) | omega | (simp only [List.length_cons, List.length_nil]; omega)) only [go_sem, ↓reduceIte, Nat.reduceEqDiff, Nat.reduceAdd, Nat.reduceMul, Nat.reduceSub, Int.reduceToNat, Nat.reduceBEq, List.size_toArray, List.length_cons, List.length_nil, Bool.false_and, Bool.true_and, Bool.or_false, Bool.false_or, Bool.and_false, Bool.and_true, s2, s3, s12, s5, s13, bn, b0, b1, hlt]
  refine WP_cut (fun st h => st 2 = .ptr 0 0 ∧ st 3 = .ptr 1 0 ∧ st 12 = I p.length ∧ st 6 = I i ∧ st 5 = I (weightB p t v i) ∧ st 13 = I i ∧ st 7 = I (caseF (nth p i) v (nth p i).length) ∧ h.nx = 2 ∧ h.bl 0 = some (.cells false false [LLI p, LLI t, I p.length]) ∧ h.bl 1 = some (.cells false false (v.flatMap (e1 I)))) ?_ ?_
  · refine WP_for 23 (nth p i).length (fun k st h => st 2 = .ptr 0 0 ∧ st 3 = .ptr 1 0 ∧ st 12 = I p.length ∧ st 6 = I i ∧ st 5 = I (weightB p t v i) ∧ st 13 = I i ∧ st 7 = I (caseF (nth p i) v k) ∧ st 21 = LI (nth p i) ∧ st 22 = I (nth p i).length ∧ h.nx = 2 ∧ h.bl 0 = some (.cells false false [LLI p, LLI t, I p.length]) ∧ h.bl 1 = some (.cells false false (v.flatMap (e1 I)))) (by simp (disch := first | (simp only [go_sem, Bool.and_self, eq_self]; done) | omega | (simp only [List.length_cons, List.length_nil]; omega)) only [go_sem, ↓reduceIte, Nat.reduceEqDiff, Nat.reduceAdd, Nat.reduceMul, Nat.reduceSub, Int.reduceToNat, Nat.reduceBEq, List.size_toArray, List.length_cons, List.length_nil, Bool.false_and, Bool.true_and, Bool.or_false, Bool.false_or, Bool.and_false, Bool.and_true]) ⟨by simp (disch := first | (simp only [go_sem, Bool.and_self, eq_self]; done) | omega | (simp only [List.length_cons, List.length_nil]; omega)) only [go_sem, ↓reduceIte, Nat.reduceEqDiff, Nat.reduceAdd, Nat.reduceMul, Nat.reduceSub, Int.reduceToNat, Nat.reduceBEq, List.size_toArray, List.length_cons, List.length_nil, Bool.false_and, Bool.true_and, Bool.or_false, Bool.false_or, Bool.and_false, Bool.and_true, s2, s3, s12, s5, s13], by simp (disch := first | (simp only [go_sem, Bool.and_self, eq_self]; done) | omega | (simp only [List.length_cons, List.length_nil]; omega)) only [go_sem, ↓reduceIte, Nat.reduceEqDiff, Nat.reduceAdd, Nat.reduceMul, Nat.reduceSub, Int.reduceToNat, Nat.reduceBEq, List.size_toArray, List.length_cons, List.length_nil, Bool.false_and, Bool.true_and, Bool.or_false, Bool.false_or, Bool.and_false, Bool.and_true, s2, s3, s12, s5, s13], by simp (disch := first | (simp only [go_sem, Bool.and_self, eq_self]; done) | omega | (simp only [List.length_cons, List.length_nil]; omega)) only [go_sem, ↓reduceIte, Nat.reduceEqDiff, Nat.reduceAdd, Nat.reduceMul, Nat.reduceSub, Int.reduceToNat, Nat.reduceBEq, List.size_toArray, List.length_cons, List.length_nil, Bool.false_and, Bool.true_and, Bool.or_false, Bool.false_or, Bool.and_false, Bool.and_true, s2, s3, s12, s5, s13], by simp (disch := first | (simp only [go_sem, Bool.and_self, eq_self]; done) | omega | (simp only [List.length_cons, List.length_nil]; omega)) only [go_sem, ↓reduceIte, Nat.reduceEqDiff, Nat.reduceAdd, Nat.reduceMul, Nat.reduceSub, Int.reduceToNat, Nat.reduceBEq, List.size_toArray, List.length_cons, List.length_nil, Bool.false_and, Bool.true_and, Bool.or_false, Bool.false_or, Bool.and_false, Bool.and_true, s2, s3, s12, s5, s13], by simp (disch := first | (simp only [go_sem, Bool.and_self, eq_self]; done) | omega | (simp only [List.length_cons, List.length_nil]; omega)) only [go_sem, ↓reduceIte, Nat.reduceEqDiff, Nat.reduceAdd, Nat.reduceMul, Nat.reduceSub, Int.reduceToNat, Nat.reduceBEq, List.size_toArray, List.length_cons, List.length_nil, Bool.false_and, Bool.true_and, Bool.or_false, Bool.false_or, Bool.and_false, Bool.and_true, s2, s3, s12, s5, s13], by simp (disch := first | (simp only [go_sem, Bool.and_self, eq_self]; done) | omega | (simp only [List.length_cons, List.length_nil]; omega)) only [go_sem, ↓reduceIte, Nat.reduceEqDiff, Nat.reduceAdd, Nat.reduceMul, Nat.reduceSub, Int.reduceToNat, Nat.reduceBEq, List.size_toArray, List.length_cons, List.length_nil, Bool.false_and, Bool.true_and, Bool.or_false, Bool.false_or, Bool.and_false, Bool.and_true, s2, s3, s12, s5, s13], by simp (disch := first | (simp only [go_sem, Bool.and_self, eq_self]; done) | omega | (simp only [List.length_cons, List.length_nil]; omega)) only [go_sem, ↓reduceIte, Nat.reduceEqDiff, Nat.reduceAdd, Nat.reduceMul, Nat.reduceSub, Int.reduceToNat, Nat.reduceBEq, List.size_toArray, List.length_cons, List.length_nil, Bool.false_and, Bool.true_and, Bool.or_false, Bool.false_or, Bool.and_false, Bool.and_true]; rfl, by simp (disch := first | (simp only [go_sem, Bool.and_self, eq_self]; done) | omega | (simp only [List.length_cons, List.length_nil]; omega)) only [go_sem, ↓reduceIte, Nat.reduceEqDiff, Nat.reduceAdd, Nat.reduceMul, Nat.reduceSub, Int.reduceToNat, Nat.reduceBEq, List.size_toArray, List.length_cons, List.length_nil, Bool.false_and, Bool.true_and, Bool.or_false, Bool.false_or, Bool.and_false, Bool.and_true, hlt], by simp (disch := first | (simp only [go_sem, Bool.and_self, eq_self]; done) | omega | (simp only [List.length_cons, List.length_nil]; omega)) only [go_sem, ↓reduceIte, Nat.reduceEqDiff, Nat.reduceAdd, Nat.reduceMul, Nat.reduceSub, Int.reduceToNat, Nat.reduceBEq, List.size_toArray, List.length_cons, List.length_nil, Bool.false_and, Bool.true_and, Bool.or_false, Bool.false_or, Bool.and_false, Bool.and_true, hlt], by simp (disch := first | (simp only [go_sem, Bool.and_self, eq_self]; done) | omega | (simp only [List.length_cons, List.length_nil]; omega)) only [go_sem, ↓reduceIte, Nat.reduceEqDiff, Nat.reduceAdd, Nat.reduceMul, Nat.reduceSub, Int.reduceToNat, Nat.reduceBEq, List.size_toArray, List.length_cons, List.length_nil, Bool.false_and, Bool.true_and, Bool.or_false, Bool.false_or, Bool.and_false, Bool.and_true, bn], by simp (disch := first | (simp only [go_sem, Bool.and_self, eq_self]; done) | omega | (simp only [List.length_cons, List.length_nil]; omega)) only [go_sem, ↓reduceIte, Nat.reduceEqDiff, Nat.reduceAdd, Nat.reduceMul, Nat.reduceSub, Int.reduceToNat, Nat.reduceBEq, List.size_toArray, List.length_cons, List.length_nil, Bool.false_and, Bool.true_and, Bool.or_false, Bool.false_or, Bool.and_false, Bool.and_true, b0], by simp (disch := first | (simp only [go_sem, Bool.and_self, eq_self]; done) | omega | (simp only [List.length_cons, List.length_nil]; omega)) only [go_sem, ↓reduceIte, Nat.reduceEqDiff, Nat.reduceAdd, Nat.reduceMul, Nat.reduceSub, Int.reduceToNat, Nat.reduceBEq, List.size_toArray, List.length_cons, List.length_nil, Bool.false_and, Bool.true_and, Bool.or_false, Bool.false_or, Bool.and_false, Bool.and_true, b1]⟩ ?_
    rintro k st h hk s23 ⟨s2, s3, s12, s6, s5, s13, s7, s21, s22, bn, b0, b1⟩
    by_cases hkl : k < (nth p i).length
    case neg =>
      have hkk : k = (nth p i).length := by omega
      simp (disch := first | (simp only [go_sem, Bool.and_self, eq_self]; done) | omega | (simp only [List.length_cons, List.length_nil]; omega)) only [go_sem, ↓reduceIte, Nat.reduceEqDiff, Nat.reduceAdd, Nat.reduceMul, Nat.reduceSub, Int.reduceToNat, Nat.reduceBEq, List.size_toArray, List.length_cons, List.length_nil, Bool.false_and, Bool.true_and, Bool.or_false, Bool.false_or, Bool.and_false, Bool.and_true, s2, s3, s12, s6, s5, s13, s7, s21, s22, s23, bn, b0, b1, hkl]
      rw [hkk]
    obtain ⟨a0, a1⟩ := N.par i k hlt hkl
    have a2 : nth (nth p i) k < 10 := by omega
    have fg := flat_get I v (nth (nth p i) k).toNat (by omega)
    have hb := hv.bit (nth (nth p i) k).toNat (by omega)
    have c1 := caseF_lt (nth p i) v k
    have c2 : 2 ^ k < 2 ^ 3 := Nat.pow_lt_pow_right (by omega) (by omega)
    rcases hb with hb | hb
    · have e1 : ∀ t, binA Try.prog .shl t (I 0) (I (k : Int)) = some (I 0) := fun t => by rw [binA_shl _ _ _ _ _ (by omega), Int.zero_mul, wrap_ok _ (by decide) (by decide)]
      have e2 : ∀ t, binA Try.prog .or t (I (caseF (nth p i) v k : Nat)) (I 0) = some (I (caseF (nth p i) v k : Nat)) := fun t => by
        have := binA_or (P := Try.prog) t (caseF (nth p i) v k) 0 (by omega) (by omega)
        simpa using this
      simp (disch := first | (simp only [go_sem, Bool.and_self, eq_self]; done) | omega | (simp only [List.length_cons, List.length_nil]; omega)) only [go_sem, ↓reduceIte, Nat.reduceEqDiff, Nat.reduceAdd, Nat.reduceMul, Nat.reduceSub, Int.reduceToNat, Nat.reduceBEq, List.size_toArray, List.length_cons, List.length_nil, Bool.false_and, Bool.true_and, Bool.or_false, Bool.false_or, Bool.and_false, Bool.and_true, s2, s3, s12, s6, s5, s13, s7, s21, s22, s23, bn, b0, b1, hkl, a0, a2, fg, hb, e1, e2]
      rw [ForK_normal]
      refine ⟨hkl, by simp (disch := first | (simp only [go_sem, Bool.and_self, eq_self]; done) | omega | (simp only [List.length_cons, List.length_nil]; omega)) only [go_sem, ↓reduceIte, Nat.reduceEqDiff, Nat.reduceAdd, Nat.reduceMul, Nat.reduceSub, Int.reduceToNat, Nat.reduceBEq, List.size_toArray, List.length_cons, List.length_nil, Bool.false_and, Bool.true_and, Bool.or_false, Bool.false_or, Bool.and_false, Bool.and_true, s23], by simp (disch := first | (simp only [go_sem, Bool.and_self, eq_self]; done) | omega | (simp only [List.length_cons, List.length_nil]; omega)) only [go_sem, ↓reduceIte, Nat.reduceEqDiff, Nat.reduceAdd, Nat.reduceMul, Nat.reduceSub, Int.reduceToNat, Nat.reduceBEq, List.size_toArray, List.length_cons, List.length_nil, Bool.false_and, Bool.true_and, Bool.or_false, Bool.false_or, Bool.and_false, Bool.and_true, s2], by simp (disch := first | (simp only [go_sem, Bool.and_self, eq_self]; done) | omega | (simp only [List.length_cons, List.length_nil]; omega)) only [go_sem, ↓reduceIte, Nat.reduceEqDiff, Nat.reduceAdd, Nat.reduceMul, Nat.reduceSub, Int.reduceToNat, Nat.reduceBEq, List.size_toArray, List.length_cons, List.length_nil, Bool.false_and, Bool.true_and, Bool.or_false, Bool.false_or, Bool.and_false, Bool.and_true, s3], by simp (disch := first | (simp only [go_sem, Bool.and_self, eq_self]; done) | omega | (simp only [List.length_cons, List.length_nil]; omega)) only [go_sem, ↓reduceIte, Nat.reduceEqDiff, Nat.reduceAdd, Nat.reduceMul, Nat.reduceSub, Int.reduceToNat, Nat.reduceBEq, List.size_toArray, List.length_cons, List.length_nil, Bool.false_and, Bool.true_and, Bool.or_false, Bool.false_or, Bool.and_false, Bool.and_true, s12], by simp (disch := first | (simp only [go_sem, Bool.and_self, eq_self]; done) | omega | (simp only [List.length_cons, List.length_nil]; omega)) only [go_sem, ↓reduceIte, Nat.reduceEqDiff, Nat.reduceAdd, Nat.reduceMul, Nat.reduceSub, Int.reduceToNat, Nat.reduceBEq, List.size_toArray, List.length_cons, List.length_nil, Bool.false_and, Bool.true_and, Bool.or_false, Bool.false_or, Bool.and_false, Bool.and_true, s6], by simp (disch := first | (simp only [go_sem, Bool.and_self, eq_self]; done) | omega | (simp only [List.length_cons, List.length_nil]; omega)) only [go_sem, ↓reduceIte, Nat.reduceEqDiff, Nat.reduceAdd, Nat.reduceMul, Nat.reduceSub, Int.reduceToNat, Nat.reduceBEq, List.size_toArray, List.length_cons, List.length_nil, Bool.false_and, Bool.true_and, Bool.or_false, Bool.false_or, Bool.and_false, Bool.and_true, s5], by simp (disch := first | (simp only [go_sem, Bool.and_self, eq_self]; done) | omega | (simp only [List.length_cons, List.length_nil]; omega)) only [go_sem, ↓reduceIte, Nat.reduceEqDiff, Nat.reduceAdd, Nat.reduceMul, Nat.reduceSub, Int.reduceToNat, Nat.reduceBEq, List.size_toArray, List.length_cons, List.length_nil, Bool.false_and, Bool.true_and, Bool.or_false, Bool.false_or, Bool.and_false, Bool.and_true, s13], ?_, by simp (disch := first | (simp only [go_sem, Bool.and_self, eq_self]; done) | omega | (simp only [List.length_cons, List.length_nil]; omega)) only [go_sem, ↓reduceIte, Nat.reduceEqDiff, Nat.reduceAdd, Nat.reduceMul, Nat.reduceSub, Int.reduceToNat, Nat.reduceBEq, List.size_toArray, List.length_cons, List.length_nil, Bool.false_and, Bool.true_and, Bool.or_false, Bool.false_or, Bool.and_false, Bool.and_true, s21], by simp (disch := first | (simp only [go_sem, Bool.and_self, eq_self]; done) | omega | (simp only [List.length_cons, List.length_nil]; omega)) only [go_sem, ↓reduceIte, Nat.reduceEqDiff, Nat.reduceAdd, Nat.reduceMul, Nat.reduceSub, Int.reduceToNat, Nat.reduceBEq, List.size_toArray, List.length_cons, List.length_nil, Bool.false_and, Bool.true_and, Bool.or_false, Bool.false_or, Bool.and_false, Bool.and_true, s22], by simp (disch := first | (simp only [go_sem, Bool.and_self, eq_self]; done) | omega | (simp only [List.length_cons, List.length_nil]; omega)) only [go_sem, ↓reduceIte, Nat.reduceEqDiff, Nat.reduceAdd, Nat.reduceMul, Nat.reduceSub, Int.reduceToNat, Nat.reduceBEq, List.size_toArray, List.length_cons, List.length_nil, Bool.false_and, Bool.true_and, Bool.or_false, Bool.false_or, Bool.and_false, Bool.and_true, bn], by simp (disch := first | (simp only [go_sem, Bool.and_self, eq_self]; done) | omega | (simp only [List.length_cons, List.length_nil]; omega)) only [go_sem, ↓reduceIte, Nat.reduceEqDiff, Nat.reduceAdd, Nat.reduceMul, Nat.reduceSub, Int.reduceToNat, Nat.reduceBEq, List.size_toArray, List.length_cons, List.length_nil, Bool.false_and, Bool.true_and, Bool.or_false, Bool.false_or, Bool.and_false, Bool.and_true, b0], by simp (disch := first | (simp only [go_sem, Bool.and_self, eq_self]; done) | omega | (simp only [List.length_cons, List.length_nil]; omega)) only [go_sem, ↓reduceIte, Nat.reduceEqDiff, Nat.reduceAdd, Nat.reduceMul, Nat.reduceSub, Int.reduceToNat, Nat.reduceBEq, List.size_toArray, List.length_cons, List.length_nil, Bool.false_and, Bool.true_and, Bool.or_false, Bool.false_or, Bool.and_false, Bool.and_true, b1]⟩
      simp (disch := first | (simp only [go_sem, Bool.and_self, eq_self]; done) | omega | (simp only [List.length_cons, List.length_nil]; omega)) only [go_sem, ↓reduceIte, Nat.reduceEqDiff, Nat.reduceAdd, Nat.reduceMul, Nat.reduceSub, Int.reduceToNat, Nat.reduceBEq, List.size_toArray, List.length_cons, List.length_nil, Bool.false_and, Bool.true_and, Bool.or_false, Bool.false_or, Bool.and_false, Bool.and_true]; simp [caseF, hb]
    · have e1 := fun t => shl_one (P := Try.prog) t k (by omega)
      have e2 := fun t => binA_or (P := Try.prog) t (caseF (nth p i) v k) (2 ^ k) (by omega) (by omega)
      simp (disch := first | (simp only [go_sem, Bool.and_self, eq_self]; done) | omega | (simp only [List.length_cons, List.length_nil]; omega)) only [go_sem, ↓reduceIte, Nat.reduceEqDiff, Nat.reduceAdd, Nat.reduceMul, Nat.reduceSub, Int.reduceToNat, Nat.reduceBEq, List.size_toArray, List.length_cons, List.length_nil, Bool.false_and, Bool.true_and, Bool.or_false, Bool.false_or, Bool.and_false, Bool.and_true, s2, s3, s12, s6, s5, s13, s7, s21, s22, s23, bn, b0, b1, hkl, a0, a2, fg, hb, e1, e2]
      rw [ForK_normal]
      refine ⟨hkl, by simp (disch := first | (simp only [go_sem, Bool.and_self, eq_self]; done) | omega | (simp only [List.length_cons, List.length_nil]; omega)) only [go_sem, ↓reduceIte, Nat.reduceEqDiff, Nat.reduceAdd, Nat.reduceMul, Nat.reduceSub, Int.reduceToNat, Nat.reduceBEq, List.size_toArray, List.length_cons, List.length_nil, Bool.false_and, Bool.true_and, Bool.or_false, Bool.false_or, Bool.and_false, Bool.and_true, s23], by simp (disch := first | (simp only [go_sem, Bool.and_self, eq_self]; done) | omega | (simp only [List.length_cons, List.length_nil]; omega)) only [go_sem, ↓reduceIte, Nat.reduceEqDiff, Nat.reduceAdd, Nat.reduceMul, Nat.reduceSub, Int.reduceToNat, Nat.reduceBEq, List.size_toArray, List.length_cons, List.length_nil, Bool.false_and, Bool.true_and, Bool.or_false, Bool.false_or, Bool.and_false, Bool.and_true, s2], by simp (disch := first | (simp only [go_sem, Bool.and_self, eq_self]; done) | omega | (simp only [List.length_cons, List.length_nil]; omega)) only [go_sem, ↓reduceIte, Nat.reduceEqDiff, Nat.reduceAdd, Nat.reduceMul, Nat.reduceSub, Int.reduceToNat, Nat.reduceBEq, List.size_toArray, List.length_cons, List.length_nil, Bool.false_and, Bool.true_and, Bool.or_false, Bool.false_or, Bool.and_false, Bool.and_true, s3], by simp (disch := first | (simp only [go_sem, Bool.and_self, eq_self]; done) | omega | (simp only [List.length_cons, List.length_nil]; omega)) only [go_sem, ↓reduceIte, Nat.reduceEqDiff, Nat.reduceAdd, Nat.reduceMul, Nat.reduceSub, Int.reduceToNat, Nat.reduceBEq, List.size_toArray, List.length_cons, List.length_nil, Bool.false_and, Bool.true_and, Bool.or_false, Bool.false_or, Bool.and_false, Bool.and_true, s12], by simp (disch := first | (simp only [go_sem, Bool.and_self, eq_self]; done) | omega | (simp only [List.length_cons, List.length_nil]; omega)) only [go_sem, ↓reduceIte, Nat.reduceEqDiff, Nat.reduceAdd, Nat.reduceMul, Nat.reduceSub, Int.reduceToNat, Nat.reduceBEq, List.size_toArray, List.length_cons, List.length_nil, Bool.false_and, Bool.true_and, Bool.or_false, Bool.false_or, Bool.and_false, Bool.and_true, s6], by simp (disch := first | (simp only [go_sem, Bool.and_self, eq_self]; done) | omega | (simp only [List.length_cons, List.length_nil]; omega)) only [go_sem, ↓reduceIte, Nat.reduceEqDiff, Nat.reduceAdd, Nat.reduceMul, Nat.reduceSub, Int.reduceToNat, Nat.reduceBEq, List.size_toArray, List.length_cons, List.length_nil, Bool.false_and, Bool.true_and, Bool.or_false, Bool.false_or, Bool.and_false, Bool.and_true, s5], by simp (disch := first | (simp only [go_sem, Bool.and_self, eq_self]; done) | omega | (simp only [List.length_cons, List.length_nil]; omega)) only [go_sem, ↓reduceIte, Nat.reduceEqDiff, Nat.reduceAdd, Nat.reduceMul, Nat.reduceSub, Int.reduceToNat, Nat.reduceBEq, List.size_toArray, List.length_cons, List.length_nil, Bool.false_and, Bool.true_and, Bool.or_false, Bool.false_or, Bool.and_false, Bool.and_true, s13], ?_, by simp (disch := first | (simp only [go_sem, Bool.and_self, eq_self]; done) | omega | (simp only [List.length_cons, List.length_nil]; omega)) only [go_sem, ↓reduceIte, Nat.reduceEqDiff, Nat.reduceAdd, Nat.reduceMul, Nat.reduceSub, Int.reduceToNat, Nat.reduceBEq, List.size_toArray, List.length_cons, List.length_nil, Bool.false_and, Bool.true_and, Bool.or_false, Bool.false_or, Bool.and_false, Bool.and_true, s21], by simp (disch := first | (simp only [go_sem, Bool.and_self, eq_self]; done) | omega | (simp only [List.length_cons, List.length_nil]; omega)) only [go_sem, ↓reduceIte, Nat.reduceEqDiff, Nat.reduceAdd, Nat.reduceMul, Nat.reduceSub, Int.reduceToNat, Nat.reduceBEq, List.size_toArray, List.length_cons, List.length_nil, Bool.false_and, Bool.true_and, Bool.or_false, Bool.false_or, Bool.and_false, Bool.and_true, s22], by simp (disch := first | (simp only [go_sem, Bool.and_self, eq_self]; done) | omega | (simp only [List.length_cons, List.length_nil]; omega)) only [go_sem, ↓reduceIte, Nat.reduceEqDiff, Nat.reduceAdd, Nat.reduceMul, Nat.reduceSub, Int.reduceToNat, Nat.reduceBEq, List.size_toArray, List.length_cons, List.length_nil, Bool.false_and, Bool.true_and, Bool.or_false, Bool.false_or, Bool.and_false, Bool.and_true, bn], by simp (disch := first | (simp only [go_sem, Bool.and_self, eq_self]; done) | omega | (simp only [List.length_cons, List.length_nil]; omega)) only [go_sem, ↓reduceIte, Nat.reduceEqDiff, Nat.reduceAdd, Nat.reduceMul, Nat.reduceSub, Int.reduceToNat, Nat.reduceBEq, List.size_toArray, List.length_cons, List.length_nil, Bool.false_and, Bool.true_and, Bool.or_false, Bool.false_or, Bool.and_false, Bool.and_true, b0], by simp (disch := first | (simp only [go_sem, Bool.and_self, eq_self]; done) | omega | (simp only [List.length_cons, List.length_nil]; omega)) only [go_sem, ↓reduceIte, Nat.reduceEqDiff, Nat.reduceAdd, Nat.reduceMul, Nat.reduceSub, Int.reduceToNat, Nat.reduceBEq, List.size_toArray, List.length_cons, List.length_nil, Bool.false_and, Bool.true_and, Bool.or_false, Bool.false_or, Bool.and_false, Bool.and_true, b1]⟩
      simp (disch := first | (simp only [go_sem, Bool.and_self, eq_self]; done) | omega | (simp only [List.length_cons, List.length_nil]; omega)) only [go_sem, ↓reduceIte, Nat.reduceEqDiff, Nat.reduceAdd, Nat.reduceMul, Nat.reduceSub, Int.reduceToNat, Nat.reduceBEq, List.size_toArray, List.length_cons, List.length_nil, Bool.false_and, Bool.true_and, Bool.or_false, Bool.false_or, Bool.and_false, Bool.and_true]; simp [caseF, hb, or_pow c1]
  · rintro st h ⟨s2, s3, s12, s6, s5, s13, s7, bn, b0, b1⟩
    have c1 := caseF_lt (nth p i) v (nth p i).length
    have hlt2 : i < t.length := by omega
    have c2 : caseF (nth p i) v (nth p i).length < (nth t i).length := by rw [N.tt i hlt]; exact c1
    have fg := flat_get I v i (by omega)
    obtain ⟨w1, w2⟩ := weight_bounds N v (n := i) (by omega)
    obtain ⟨w3, w4⟩ := weight_bounds N v (n := i + 1) (by omega)
    have w5 := pow16_le (i := i + 1) (n := 10) (by omega) (by omega)
    obtain ⟨q1, q2⟩ := N.ent i _ hlt c2
    have hi10 : i < 10 := by omega
    have w6 : weightB p t v (i + 1) = weightB p t v i * wt p t v i := rfl
    by_cases hz : nth v i = 0
    · have hw : wt p t v i = 16 - nth (nth t i) (caseF (nth p i) v (nth p i).length) := by simp only [wt, hz, if_true]
      rw [w6, hw] at w3 w4
      simp (disch := first | (simp only [go_sem, Bool.and_self, eq_self]; done) | omega | (simp only [List.length_cons, List.length_nil]; omega)) only [go_sem, ↓reduceIte, Nat.reduceEqDiff, Nat.reduceAdd, Nat.reduceMul, Nat.reduceSub, Int.reduceToNat, Nat.reduceBEq, List.size_toArray, List.length_cons, List.length_nil, Bool.false_and, Bool.true_and, Bool.or_false, Bool.false_or, Bool.and_false, Bool.and_true, s2, s3, s12, s6, s5, s13, s7, bn, b0, b1, hlt, hlt2, c2, fg, hz, hi10]
      rw [ForK_normal]
      refine ⟨hlt, by simp (disch := first | (simp only [go_sem, Bool.and_self, eq_self]; done) | omega | (simp only [List.length_cons, List.length_nil]; omega)) only [go_sem, ↓reduceIte, Nat.reduceEqDiff, Nat.reduceAdd, Nat.reduceMul, Nat.reduceSub, Int.reduceToNat, Nat.reduceBEq, List.size_toArray, List.length_cons, List.length_nil, Bool.false_and, Bool.true_and, Bool.or_false, Bool.false_or, Bool.and_false, Bool.and_true, s2, s3, s12, s6, s5, s13], by simp (disch := first | (simp only [go_sem, Bool.and_self, eq_self]; done) | omega | (simp only [List.length_cons, List.length_nil]; omega)) only [go_sem, ↓reduceIte, Nat.reduceEqDiff, Nat.reduceAdd, Nat.reduceMul, Nat.reduceSub, Int.reduceToNat, Nat.reduceBEq, List.size_toArray, List.length_cons, List.length_nil, Bool.false_and, Bool.true_and, Bool.or_false, Bool.false_or, Bool.and_false, Bool.and_true, s2, s3, s12, s6, s5, s13], by simp (disch := first | (simp only [go_sem, Bool.and_self, eq_self]; done) | omega | (simp only [List.length_cons, List.length_nil]; omega)) only [go_sem, ↓reduceIte, Nat.reduceEqDiff, Nat.reduceAdd, Nat.reduceMul, Nat.reduceSub, Int.reduceToNat, Nat.reduceBEq, List.size_toArray, List.length_cons, List.length_nil, Bool.false_and, Bool.true_and, Bool.or_false, Bool.false_or, Bool.and_false, Bool.and_true, s2, s3, s12, s6, s5, s13], by simp (disch := first | (simp only [go_sem, Bool.and_self, eq_self]; done) | omega | (simp only [List.length_cons, List.length_nil]; omega)) only [go_sem, ↓reduceIte, Nat.reduceEqDiff, Nat.reduceAdd, Nat.reduceMul, Nat.reduceSub, Int.reduceToNat, Nat.reduceBEq, List.size_toArray, List.length_cons, List.length_nil, Bool.false_and, Bool.true_and, Bool.or_false, Bool.false_or, Bool.and_false, Bool.and_true, s2, s3, s12, s6, s5, s13], by simp (disch := first | (simp only [go_sem, Bool.and_self, eq_self]; done) | omega | (simp only [List.length_cons, List.length_nil]; omega)) only [go_sem, ↓reduceIte, Nat.reduceEqDiff, Nat.reduceAdd, Nat.reduceMul, Nat.reduceSub, Int.reduceToNat, Nat.reduceBEq, List.size_toArray, List.length_cons, List.length_nil, Bool.false_and, Bool.true_and, Bool.or_false, Bool.false_or, Bool.and_false, Bool.and_true, w6, hw], by simp (disch := first | (simp only [go_sem, Bool.and_self, eq_self]; done) | omega | (simp only [List.length_cons, List.length_nil]; omega)) only [go_sem, ↓reduceIte, Nat.reduceEqDiff, Nat.reduceAdd, Nat.reduceMul, Nat.reduceSub, Int.reduceToNat, Nat.reduceBEq, List.size_toArray, List.length_cons, List.length_nil, Bool.false_and, Bool.true_and, Bool.or_false, Bool.false_or, Bool.and_false, Bool.and_true, bn], by simp (disch := first | (simp only [go_sem, Bool.and_self, eq_self]; done) | omega | (simp only [List.length_cons, List.length_nil]; omega)) only [go_sem, ↓reduceIte, Nat.reduceEqDiff, Nat.reduceAdd, Nat.reduceMul, Nat.reduceSub, Int.reduceToNat, Nat.reduceBEq, List.size_toArray, List.length_cons, List.length_nil, Bool.false_and, Bool.true_and, Bool.or_false, Bool.false_or, Bool.and_false, Bool.and_true, b0], by simp (disch := first | (simp only [go_sem, Bool.and_self, eq_self]; done) | omega | (simp only [List.length_cons, List.length_nil]; omega)) only [go_sem, ↓reduceIte, Nat.reduceEqDiff, Nat.reduceAdd, Nat.reduceMul, Nat.reduceSub, Int.reduceToNat, Nat.reduceBEq, List.size_toArray, List.length_cons, List.length_nil, Bool.false_and, Bool.true_and, Bool.or_false, Bool.false_or, Bool.and_false, Bool.and_true, b1]⟩
    · have hw : wt p t v i = nth (nth t i) (caseF (nth p i) v (nth p i).length) := by simp only [wt, hz, if_false]
      rw [w6, hw] at w3 w4
      simp (disch := first | (simp only [go_sem, Bool.and_self, eq_self]; done) | omega | (simp only [List.length_cons, List.length_nil]; omega)) only [go_sem, ↓reduceIte, Nat.reduceEqDiff, Nat.reduceAdd, Nat.reduceMul, Nat.reduceSub, Int.reduceToNat, Nat.reduceBEq, List.size_toArray, List.length_cons, List.length_nil, Bool.false_and, Bool.true_and, Bool.or_false, Bool.false_or, Bool.and_false, Bool.and_true, s2, s3, s12, s6, s5, s13, s7, bn, b0, b1, hlt, hlt2, c2, fg, hz, hi10]
      rw [ForK_normal]
      refine ⟨hlt, by simp (disch := first | (simp only [go_sem, Bool.and_self, eq_self]; done) | omega | (simp only [List.length_cons, List.length_nil]; omega)) only [go_sem, ↓reduceIte, Nat.reduceEqDiff, Nat.reduceAdd, Nat.reduceMul, Nat.reduceSub, Int.reduceToNat, Nat.reduceBEq, List.size_toArray, List.length_cons, List.length_nil, Bool.false_and, Bool.true_and, Bool.or_false, Bool.false_or, Bool.and_false, Bool.and_true, s2, s3, s12, s6, s5, s13], by simp (disch := first | (simp only [go_sem, Bool.and_self, eq_self]; done) | omega | (simp only [List.length_cons, List.length_nil]; omega)) only [go_sem, ↓reduceIte, Nat.reduceEqDiff, Nat.reduceAdd, Nat.reduceMul, Nat.reduceSub, Int.reduceToNat, Nat.reduceBEq, List.size_toArray, List.length_cons, List.length_nil, Bool.false_and, Bool.true_and, Bool.or_false, Bool.false_or, Bool.and_false, Bool.and_true, s2, s3, s12, s6, s5, s13], by simp (disch := first | (simp only [go_sem, Bool.and_self, eq_self]; done) | omega | (simp only [List.length_cons, List.length_nil]; omega)) only [go_sem, ↓reduceIte, Nat.reduceEqDiff, Nat.reduceAdd, Nat.reduceMul, Nat.reduceSub, Int.reduceToNat, Nat.reduceBEq, List.size_toArray, List.length_cons, List.length_nil, Bool.false_and, Bool.true_and, Bool.or_false, Bool.false_or, Bool.and_false, Bool.and_true, s2, s3, s12, s6, s5, s13], by simp (disch := first | (simp only [go_sem, Bool.and_self, eq_self]; done) | omega | (simp only [List.length_cons, List.length_nil]; omega)) only [go_sem, ↓reduceIte, Nat.reduceEqDiff, Nat.reduceAdd, Nat.reduceMul, Nat.reduceSub, Int.reduceToNat, Nat.reduceBEq, List.size_toArray, List.length_cons, List.length_nil, Bool.false_and, Bool.true_and, Bool.or_false, Bool.false_or, Bool.and_false, Bool.and_true, s2, s3, s12, s6, s5, s13], by simp (disch := first | (simp only [go_sem, Bool.and_self, eq_self]; done) | omega | (simp only [List.length_cons, List.length_nil]; omega)) only [go_sem, ↓reduceIte, Nat.reduceEqDiff, Nat.reduceAdd, Nat.reduceMul, Nat.reduceSub, Int.reduceToNat, Nat.reduceBEq, List.size_toArray, List.length_cons, List.length_nil, Bool.false_and, Bool.true_and, Bool.or_false, Bool.false_or, Bool.and_false, Bool.and_true, w6, hw], by simp (disch := first | (simp only [go_sem, Bool.and_self, eq_self]; done) | omega | (simp only [List.length_cons, List.length_nil]; omega)) only [go_sem, ↓reduceIte, Nat.reduceEqDiff, Nat.reduceAdd, Nat.reduceMul, Nat.reduceSub, Int.reduceToNat, Nat.reduceBEq, List.size_toArray, List.length_cons, List.length_nil, Bool.false_and, Bool.true_and, Bool.or_false, Bool.false_or, Bool.and_false, Bool.and_true, bn], by simp (disch := first | (simp only [go_sem, Bool.and_self, eq_self]; done) | omega | (simp only [List.length_cons, List.length_nil]; omega)) only [go_sem, ↓reduceIte, Nat.reduceEqDiff, Nat.reduceAdd, Nat.reduceMul, Nat.reduceSub, Int.reduceToNat, Nat.reduceBEq, List.size_toArray, List.length_cons, List.length_nil, Bool.false_and, Bool.true_and, Bool.or_false, Bool.false_or, Bool.and_false, Bool.and_true, b0], by simp (disch := first | (simp only [go_sem, Bool.and_self, eq_self]; done) | omega | (simp only [List.length_cons, List.length_nil]; omega)) only [go_sem, ↓reduceIte, Nat.reduceEqDiff, Nat.reduceAdd, Nat.reduceMul, Nat.reduceSub, Int.reduceToNat, Nat.reduceBEq, List.size_toArray, List.length_cons, List.length_nil, Bool.false_and, Bool.true_and, Bool.or_false, Bool.false_or, Bool.and_false, Bool.and_true, b1]⟩
theorem k51 (p t : List (List Int)) (N : Net p t) (v : List Int) (hv : Vals v p.length) : ConW Try.prog cfg 51 h (some ([.agg [LLI p, LLI t, I p.length], .agg (v.flatMap (e1 I))], h')) K = K (I (weightB p t v p.length)) h := ConW_num (f51_con p t N v hv) rfl

end Go.Proofs.Ytpkakapbepkfdaa

set_option linter.unusedVariables false
set_option linter.unusedSimpArgs false
set_option maxRecDepth 10000
namespace Go.Proofs.Ytpkakapbepkfdaa
open Go Go.Am

variable {h h' : Hp} {K : AV → Hp → Prop}

theorem netR_t {p t : List (List Int)} (h : netB p t = true) : netR p t = .tup [.agg [LLI p, LLI t, I p.length], I 0] := by simp [netR, h]
theorem netR_f {p t : List (List Int)} (h : netB p t = false) : netR p t = .tup [.agg [.nil, .nil, I 0], I 2] := by simp [netR, h]
/-- A row of values filled up to ten. -/
def ten (v : List Int) : List Int := v ++ (List.replicate 10 (0 : Int)).drop v.length
theorem ten_len {v : List Int} (h : v.length ≤ 10) : (ten v).length = 10 := by simp [ten]; omega
theorem ten_nth {v : List Int} {i : Nat} (hi : i < v.length) : nth (ten v) i = nth v i := nth_append_left _ _ _ hi
/-- A row of values: one for each variable, 0 or 1. -/
def rowOkB (p : List (List Int)) (v : List Int) : Bool := decide (v.length = p.length) && !v.any fun x => !inB x 0 1
theorem rowOkB_vals {p : List (List Int)} {v : List Int} (hp : p.length ≤ 10) (h : rowOkB p v = true) : Vals (ten v) p.length := by
  simp only [rowOkB, Bool.and_eq_true, decide_eq_true_eq, Bool.not_eq_true', List.any_eq_false] at h
  refine ⟨ten_len (by omega), fun i hi => ?_⟩
  rw [ten_nth (by omega)]
  have := h.2 _ (nth_mem (xs := v) (i := i) (by omega))
  simp only [inB, Bool.not_eq_true', Bool.not_eq_eq_eq_not, Bool.not_true, Bool.not_false, decide_eq_false_iff_not, Decidable.not_not, decide_eq_true_eq] at this
  omega
theorem z10 : [I 0, I 0, I 0, I 0, I 0, I 0, I 0, I 0, I 0, I 0] = (List.replicate 10 (0 : Int)).flatMap (e1 I) := rfl
theorem loadC_flat (v : List Int) (h : v.length = 10) (e : TypeId) : loadC (some (.array 10 e)) (some 10) (some (v.flatMap (e1 I), 0)) = some (.agg (v.flatMap (e1 I))) := by
  have : (v.flatMap (e1 I)).length = 10 := by rw [flat_len, h]
  rw [loadC_agg _ _ rfl _ _ (by omega), List.drop_zero, List.take_of_length_le (by omega)]
def jointR (p t : List (List Int)) (v : List Int) : AV := if netB p t && rowOkB p v then .tup [redu (weightB p t (ten v) p.length) (16 ^ p.length), I 0] else .tup [.agg [I 0, I 0], I 2]

theorem f18_con (p t : List (List Int)) (v : List Int) (hp : okLL p) (ht : okLL t) (hv : v.length ≤ maxLen) : Con Try.prog cfg 18 [.agg [LLI p, LLI t], LI v] (jointR p t v) := by
  have kn := fun h h' K => k46 (h := h) (h' := h') (K := K) p t hp ht
  have hsf : ∀ h : Hp, sealA h (.fn 48 []) = some (.fn 48 [], h) := fun _ => rfl
  have kk := fun h h' K => k47' (h := h) (h' := h') (K := K) v hv
  have n20 : ¬ (2 : Int) = 0 := by decide
  refine Con_intro Try.func18 rfl ok18 (Nat.le_of_ble_eq_true rfl) rfl ?_
  simp only [Try.f18, Option.getD_some, initSt2]
  cases h1 : netB p t with
  | false =>
    have : jointR p t v = .tup [.agg [I 0, I 0], I 2] := by simp [jointR, h1]
    simp (disch := first | (simp only [go_sem, Bool.and_self, eq_self]; done) | omega | (simp only [List.length_cons, List.length_nil]; omega)) only [go_sem, ↓reduceIte, Nat.reduceEqDiff, Nat.reduceAdd, Nat.reduceMul, Nat.reduceSub, Int.reduceToNat, Nat.reduceBEq, List.size_toArray, List.length_cons, List.length_nil, Bool.false_and, Bool.true_and, Bool.or_false, Bool.false_or, Bool.and_false, Bool.and_true, kn, netR_f h1, n20, this]
  | true =>
  have N := Net.of h1
  have hn1 := N.n1
  by_cases h2 : (v.length : Int) = p.length
  case neg =>
    have : jointR p t v = .tup [.agg [I 0, I 0], I 2] := by simp [jointR, h1, rowOkB, show ¬ v.length = p.length by omega]
    simp (disch := first | (simp only [go_sem, Bool.and_self, eq_self]; done) | omega | (simp only [List.length_cons, List.length_nil]; omega)) only [go_sem, ↓reduceIte, Nat.reduceEqDiff, Nat.reduceAdd, Nat.reduceMul, Nat.reduceSub, Int.reduceToNat, Nat.reduceBEq, List.size_toArray, List.length_cons, List.length_nil, Bool.false_and, Bool.true_and, Bool.or_false, Bool.false_or, Bool.and_false, Bool.and_true, kn, netR_t h1, h2, this]
  cases h3 : v.any (fun x => !inB x 0 1) with
  | true =>
    have : jointR p t v = .tup [.agg [I 0, I 0], I 2] := by simp [jointR, h1, rowOkB, h3]
    simp (disch := first | (simp only [go_sem, Bool.and_self, eq_self]; done) | omega | (simp only [List.length_cons, List.length_nil]; omega)) only [go_sem, ↓reduceIte, Nat.reduceEqDiff, Nat.reduceAdd, Nat.reduceMul, Nat.reduceSub, Int.reduceToNat, Nat.reduceBEq, List.size_toArray, List.length_cons, List.length_nil, Bool.false_and, Bool.true_and, Bool.or_false, Bool.false_or, Bool.and_false, Bool.and_true, kn, netR_t h1, h2, kk, hsf, h3, this]
  | false =>
  have h4 : rowOkB p v = true := by simp only [rowOkB, h3, decide_eq_true (show v.length = p.length by omega), Bool.not_false, Bool.and_self]
  have hvals := rowOkB_vals hn1.2 h4
  have : jointR p t v = .tup [redu (weightB p t (ten v) p.length) (16 ^ p.length), I 0] := by simp only [jointR, h1, h4, Bool.and_self, if_true]
  have kw := fun h h' K => k51 (h := h) (h' := h') (K := K) p t N (ten v) hvals
  have kh := fun h h' K => k52 (h := h) (h' := h') (K := K) p t p.length hn1.2
  obtain ⟨w1, w2⟩ := weight_bounds N (ten v) (Nat.le_refl _)
  have w3 := pow16_le (Nat.le_refl p.length) hn1.2
  have kr := fun h h' K => k50 (h := h) (h' := h') (K := K) (weightB p t (ten v) p.length) (16 ^ p.length) ⟨w1, by omega⟩ ⟨pow16_pos _, by omega⟩
  have hl10 : v.length ≤ 10 := by omega
  have lf := loadC_flat (ten v) (ten_len hl10)
  have hal := fun h => allocB_flat (h := h) (List.replicate 10 (0 : Int))
  have hr10 : (List.replicate 10 (0 : Int)).length = 10 := rfl
  have et : v ++ (List.replicate 10 (0 : Int)).drop v.length = ten v := rfl
  simp (disch := first | (simp only [go_sem, Bool.and_self, eq_self]; done) | omega | (simp only [List.length_cons, List.length_nil]; omega)) only [go_sem, ↓reduceIte, Nat.reduceEqDiff, Nat.reduceAdd, Nat.reduceMul, Nat.reduceSub, Int.reduceToNat, Nat.reduceBEq, List.size_toArray, List.length_cons, List.length_nil, Bool.false_and, Bool.true_and, Bool.or_false, Bool.false_or, Bool.and_false, Bool.and_true, kn, netR_t h1, h2, kk, hsf, h3, z10, hl10, kw, kh, kr, lf, et, hal, hr10, this]

end Go.Proofs.Ytpkakapbepkfdaa

set_option linter.unusedVariables false
set_option linter.unusedSimpArgs false
set_option maxRecDepth 10000
namespace Go.Proofs.Ytpkakapbepkfdaa
open Go Go.Am

variable {h h' : Hp} {K : AV → Hp → Prop}

theorem netB_f {p t : List (List Int)} {i : Nat} (hi : i < p.length) (h : rowB p t i = false) : netB p t = false := by
  simp only [netB, not_all_range hi h, Bool.and_false]
theorem any_of_nth {xs : List Int} {f : Int → Bool} {i : Nat} (hi : i < xs.length) (h : f (nth xs i) = true) : xs.any f = true := List.any_eq_true.2 ⟨_, nth_mem hi, h⟩
theorem not_any_nth {xs : List Int} {f : Int → Bool} (h : ∀ i, i < xs.length → f (nth xs i) = false) : xs.any f = false := by
  rw [List.any_eq_false]
  intro x hx
  obtain ⟨j, hj, rfl⟩ := List.getElem_of_mem hx
  rw [← nth_getElem hj, h j hj]; simp

theorem f19_con (p t : List (List Int)) (hp : okLL p) (ht : okLL t) : Con Try.prog cfg 19 [.agg [LLI p, LLI t]] (.bool (netB p t)) := by
  have ml : maxLen = 9223372036854775807 := by decide
  have hpl := hp.1
  have htl := ht.1
  refine Con_intro Try.func19 rfl ok19 (Nat.le_of_ble_eq_true rfl) rfl ?_
  simp only [Try.f19, Option.getD_some, initSt1]
  by_cases h1 : (p.length : Int) < 1
  · have : netB p t = false := by simp only [netB, inB, decide_eq_false (show ¬ (1 ≤ (p.length : Int) ∧ (p.length : Int) ≤ 10) by omega), Bool.false_and]
    simp (disch := first | (simp only [go_sem, Bool.and_self, eq_self]; done) | omega | (simp only [List.length_cons, List.length_nil]; omega)) only [go_sem, ↓reduceIte, Nat.reduceEqDiff, Nat.reduceAdd, Nat.reduceMul, Nat.reduceSub, Int.reduceToNat, Nat.reduceBEq, List.size_toArray, List.length_cons, List.length_nil, Bool.false_and, Bool.true_and, Bool.or_false, Bool.false_or, Bool.and_false, Bool.and_true, h1, this]
  by_cases h1' : (10 : Int) < p.length
  · have : netB p t = false := by simp only [netB, inB, decide_eq_false (show ¬ (1 ≤ (p.length : Int) ∧ (p.length : Int) ≤ 10) by omega), Bool.false_and]
    simp (disch := first | (simp only [go_sem, Bool.and_self, eq_self]; done) | omega | (simp only [List.length_cons, List.length_nil]; omega)) only [go_sem, ↓reduceIte, Nat.reduceEqDiff, Nat.reduceAdd, Nat.reduceMul, Nat.reduceSub, Int.reduceToNat, Nat.reduceBEq, List.size_toArray, List.length_cons, List.length_nil, Bool.false_and, Bool.true_and, Bool.or_false, Bool.false_or, Bool.and_false, Bool.and_true, h1, h1', this]
  by_cases h2 : (t.length : Int) = p.length
  case neg =>
    have : netB p t = false := by simp only [netB, decide_eq_false (show ¬ t.length = p.length by omega), Bool.and_false, Bool.false_and]
    simp (disch := first | (simp only [go_sem, Bool.and_self, eq_self]; done) | omega | (simp only [List.length_cons, List.length_nil]; omega)) only [go_sem, ↓reduceIte, Nat.reduceEqDiff, Nat.reduceAdd, Nat.reduceMul, Nat.reduceSub, Int.reduceToNat, Nat.reduceBEq, List.size_toArray, List.length_cons, List.length_nil, Bool.false_and, Bool.true_and, Bool.or_false, Bool.false_or, Bool.and_false, Bool.and_true, h1, h1', h2, this]
  have h1i : inB p.length 1 10 = true := by simp only [inB, decide_eq_true_eq]; omega
  have h2' : t.length = p.length := by omega
  simp (disch := first | (simp only [go_sem, Bool.and_self, eq_self]; done) | omega | (simp only [List.length_cons, List.length_nil]; omega)) only [go_sem, ↓reduceIte, Nat.reduceEqDiff, Nat.reduceAdd, Nat.reduceMul, Nat.reduceSub, Int.reduceToNat, Nat.reduceBEq, List.size_toArray, List.length_cons, List.length_nil, Bool.false_and, Bool.true_and, Bool.or_false, Bool.false_or, Bool.and_false, Bool.and_true, h1, h1', h2]
  refine WP_for 4 p.length (fun i st h => st 1 = .ptr 0 0 ∧ st 3 = I p.length ∧ h.nx = 1 ∧ h.bl 0 = some (.cells false false [LLI p, LLI t]) ∧ ∀ j, j < i → rowB p t j = true) (by simp (disch := first | (simp only [go_sem, Bool.and_self, eq_self]; done) | omega | (simp only [List.length_cons, List.length_nil]; omega)) only [go_sem, ↓reduceIte, Nat.reduceEqDiff, Nat.reduceAdd, Nat.reduceMul, Nat.reduceSub, Int.reduceToNat, Nat.reduceBEq, List.size_toArray, List.length_cons, List.length_nil, Bool.false_and, Bool.true_and, Bool.or_false, Bool.false_or, Bool.and_false, Bool.and_true]) ⟨by simp (disch := first | (simp only [go_sem, Bool.and_self, eq_self]; done) | omega | (simp only [List.length_cons, List.length_nil]; omega)) only [go_sem, ↓reduceIte, Nat.reduceEqDiff, Nat.reduceAdd, Nat.reduceMul, Nat.reduceSub, Int.reduceToNat, Nat.reduceBEq, List.size_toArray, List.length_cons, List.length_nil, Bool.false_and, Bool.true_and, Bool.or_false, Bool.false_or, Bool.and_false, Bool.and_true], by simp (disch := first | (simp only [go_sem, Bool.and_self, eq_self]; done) | omega | (simp only [List.length_cons, List.length_nil]; omega)) only [go_sem, ↓reduceIte, Nat.reduceEqDiff, Nat.reduceAdd, Nat.reduceMul, Nat.reduceSub, Int.reduceToNat, Nat.reduceBEq, List.size_toArray, List.length_cons, List.length_nil, Bool.false_and, Bool.true_and, Bool.or_false, Bool.false_or, Bool.and_false, Bool.and_true], by simp (disch := first | (simp only [go_sem, Bool.and_self, eq_self]; done) | omega | (simp only [List.length_cons, List.length_nil]; omega)) only [go_sem, ↓reduceIte, Nat.reduceEqDiff, Nat.reduceAdd, Nat.reduceMul, Nat.reduceSub, Int.reduceToNat, Nat.reduceBEq, List.size_toArray, List.length_cons, List.length_nil, Bool.false_and, Bool.true_and, Bool.or_false, Bool.false_or, Bool.and_false, Bool.and_true], by simp (disch := first | (simp only [go_sem, Bool.and_self, eq_self]; done) | omega | (simp only [List.length_cons, List.length_nil]; omega)) only [go_sem, ↓reduceIte, Nat.reduceEqDiff, Nat.reduceAdd, Nat.reduceMul, Nat.reduceSub, Int.reduceToNat, Nat.reduceBEq, List.size_toArray, List.length_cons, List.length_nil, Bool.false_and, Bool.true_and, Bool.or_false, Bool.false_or, Bool.and_false, Bool.and_true], by omega⟩ ?_
  rintro i st h hi s4 ⟨s1, s3, bn, b0, hn⟩
  by_cases hlt : i < p.length
  case neg =>
    have : netB p t = true := by
      simp only [netB, h1i, decide_eq_true h2', all_range (f := rowB p t) (n := p.length) fun j hj => hn j (by omega), Bool.and_true]
    simp (disch := first | (simp only [go_sem, Bool.and_self, eq_self]; done) | omega | (simp only [List.length_cons, List.length_nil]; omega)) only [go_sem, ↓reduceIte, Nat.reduceEqDiff, Nat.reduceAdd, Nat.reduceMul, Nat.reduceSub, Int.reduceToNat, Nat.reduceBEq, List.size_toArray, List.length_cons, List.length_nil, Bool.false_and, Bool.true_and, Bool.or_false, Bool.false_or, Bool.and_false, Bool.and_true, s1, s3, s4, bn, b0, hlt, this]
  have hlt2 : i < t.length := by omega
  have hrl : (nth p i).length ≤ maxLen := hp.2 _ (nth_mem hlt)
  have hrt : (nth t i).length ≤ maxLen := ht.2 _ (nth_mem hlt2)
  by_cases h3 : (3 : Int) < (nth p i).length
  · have q := netB_f hlt (t := t) (by simp only [rowB, decide_eq_false (show ¬ (nth p i).length ≤ 3 by omega), Bool.false_and])
    simp (disch := first | (simp only [go_sem, Bool.and_self, eq_self]; done) | omega | (simp only [List.length_cons, List.length_nil]; omega)) only [go_sem, ↓reduceIte, Nat.reduceEqDiff, Nat.reduceAdd, Nat.reduceMul, Nat.reduceSub, Int.reduceToNat, Nat.reduceBEq, List.size_toArray, List.length_cons, List.length_nil, Bool.false_and, Bool.true_and, Bool.or_false, Bool.false_or, Bool.and_false, Bool.and_true, s1, s3, s4, bn, b0, hlt, h3, q]
  have e1 := fun t => shl_one (P := Try.prog) t (nth p i).length (by omega)
  by_cases h4 : ((nth t i).length : Int) = ((2 ^ (nth p i).length : Nat) : Int)
  case neg =>
    have q := netB_f hlt (t := t) (by simp only [rowB, decide_eq_false (show ¬ (nth t i).length = 2 ^ (nth p i).length by omega), Bool.and_false, Bool.false_and])
    simp (disch := first | (simp only [go_sem, Bool.and_self, eq_self]; done) | omega | (simp only [List.length_cons, List.length_nil]; omega)) only [go_sem, ↓reduceIte, Nat.reduceEqDiff, Nat.reduceAdd, Nat.reduceMul, Nat.reduceSub, Int.reduceToNat, Nat.reduceBEq, List.size_toArray, List.length_cons, List.length_nil, Bool.false_and, Bool.true_and, Bool.or_false, Bool.false_or, Bool.and_false, Bool.and_true, s1, s3, s4, bn, b0, hlt, hlt2, h3, e1, h4, q]
  simp (disch := first | (simp only [go_sem, Bool.and_self, eq_self]; done) | omega | (simp only [List.length_cons, List.length_nil]; omega)) only [go_sem, ↓reduceIte, Nat.reduceEqDiff, Nat.reduceAdd, Nat.reduceMul, Nat.reduceSub, Int.reduceToNat, Nat.reduceBEq, List.size_toArray, List.length_cons, List.length_nil, Bool.false_and, Bool.true_and, Bool.or_false, Bool.false_or, Bool.and_false, Bool.and_true, s1, s3, s4, bn, b0, hlt, hlt2, h3, e1, h4]
  refine WP_cut (fun st h => st 1 = .ptr 0 0 ∧ st 3 = I p.length ∧ st 4 = I i ∧ h.nx = 1 ∧ h.bl 0 = some (.cells false false [LLI p, LLI t]) ∧ ∀ j, j < (nth p i).length → parB (nth p i) i j = true) ?_ ?_
  · refine WP_for 6 (nth p i).length (fun k st h => st 1 = .ptr 0 0 ∧ st 3 = I p.length ∧ st 4 = I i ∧ st 5 = LI (nth p i) ∧ h.nx = 1 ∧ h.bl 0 = some (.cells false false [LLI p, LLI t]) ∧ ∀ j, j < k → parB (nth p i) i j = true) (by simp (disch := first | (simp only [go_sem, Bool.and_self, eq_self]; done) | omega | (simp only [List.length_cons, List.length_nil]; omega)) only [go_sem, ↓reduceIte, Nat.reduceEqDiff, Nat.reduceAdd, Nat.reduceMul, Nat.reduceSub, Int.reduceToNat, Nat.reduceBEq, List.size_toArray, List.length_cons, List.length_nil, Bool.false_and, Bool.true_and, Bool.or_false, Bool.false_or, Bool.and_false, Bool.and_true]) ⟨by simp (disch := first | (simp only [go_sem, Bool.and_self, eq_self]; done) | omega | (simp only [List.length_cons, List.length_nil]; omega)) only [go_sem, ↓reduceIte, Nat.reduceEqDiff, Nat.reduceAdd, Nat.reduceMul, Nat.reduceSub, Int.reduceToNat, Nat.reduceBEq, List.size_toArray, List.length_cons, List.length_nil, Bool.false_and, Bool.true_and, Bool.or_false, Bool.false_or, Bool.and_false, Bool.and_true, s1, s3, s4], by simp (disch := first | (simp only [go_sem, Bool.and_self, eq_self]; done) | omega | (simp only [List.length_cons, List.length_nil]; omega)) only [go_sem, ↓reduceIte, Nat.reduceEqDiff, Nat.reduceAdd, Nat.reduceMul, Nat.reduceSub, Int.reduceToNat, Nat.reduceBEq, List.size_toArray, List.length_cons, List.length_nil, Bool.false_and, Bool.true_and, Bool.or_false, Bool.false_or, Bool.and_false, Bool.and_true, s1, s3, s4], by simp (disch := first | (simp only [go_sem, Bool.and_self, eq_self]; done) | omega | (simp only [List.length_cons, List.length_nil]; omega)) only [go_sem, ↓reduceIte, Nat.reduceEqDiff, Nat.reduceAdd, Nat.reduceMul, Nat.reduceSub, Int.reduceToNat, Nat.reduceBEq, List.size_toArray, List.length_cons, List.length_nil, Bool.false_and, Bool.true_and, Bool.or_false, Bool.false_or, Bool.and_false, Bool.and_true, s1, s3, s4], by simp (disch := first | (simp only [go_sem, Bool.and_self, eq_self]; done) | omega | (simp only [List.length_cons, List.length_nil]; omega)) only [go_sem, ↓reduceIte, Nat.reduceEqDiff, Nat.reduceAdd, Nat.reduceMul, Nat.reduceSub, Int.reduceToNat, Nat.reduceBEq, List.size_toArray, List.length_cons, List.length_nil, Bool.false_and, Bool.true_and, Bool.or_false, Bool.false_or, Bool.and_false, Bool.and_true, s1, s3], by simp (disch := first | (simp only [go_sem, Bool.and_self, eq_self]; done) | omega | (simp only [List.length_cons, List.length_nil]; omega)) only [go_sem, ↓reduceIte, Nat.reduceEqDiff, Nat.reduceAdd, Nat.reduceMul, Nat.reduceSub, Int.reduceToNat, Nat.reduceBEq, List.size_toArray, List.length_cons, List.length_nil, Bool.false_and, Bool.true_and, Bool.or_false, Bool.false_or, Bool.and_false, Bool.and_true, bn], by simp (disch := first | (simp only [go_sem, Bool.and_self, eq_self]; done) | omega | (simp only [List.length_cons, List.length_nil]; omega)) only [go_sem, ↓reduceIte, Nat.reduceEqDiff, Nat.reduceAdd, Nat.reduceMul, Nat.reduceSub, Int.reduceToNat, Nat.reduceBEq, List.size_toArray, List.length_cons, List.length_nil, Bool.false_and, Bool.true_and, Bool.or_false, Bool.false_or, Bool.and_false, Bool.and_true, b0], by omega⟩ ?_
    rintro k st h hk s6 ⟨s1, s3, s4, s5, bn, b0, hm⟩
    by_cases hkl : k < (nth p i).length
    case neg =>
      simp (disch := first | (simp only [go_sem, Bool.and_self, eq_self]; done) | omega | (simp only [List.length_cons, List.length_nil]; omega)) only [go_sem, ↓reduceIte, Nat.reduceEqDiff, Nat.reduceAdd, Nat.reduceMul, Nat.reduceSub, Int.reduceToNat, Nat.reduceBEq, List.size_toArray, List.length_cons, List.length_nil, Bool.false_and, Bool.true_and, Bool.or_false, Bool.false_or, Bool.and_false, Bool.and_true, s1, s3, s4, s5, s6, bn, b0, hkl]
      exact fun j hj => hm j (by omega)
    have bad : parB (nth p i) i k = false → netB p t = false := fun hb =>
      netB_f hlt (t := t) (by simp only [rowB, not_all_range hkl hb, Bool.and_false, Bool.false_and])
    by_cases h5 : nth (nth p i) k < 0
    · have q := bad (by simp only [parB, inB, decide_eq_false (show ¬ (0 ≤ nth (nth p i) k ∧ nth (nth p i) k ≤ (i : Int) - 1) by omega), Bool.false_and])
      simp (disch := first | (simp only [go_sem, Bool.and_self, eq_self]; done) | omega | (simp only [List.length_cons, List.length_nil]; omega)) only [go_sem, ↓reduceIte, Nat.reduceEqDiff, Nat.reduceAdd, Nat.reduceMul, Nat.reduceSub, Int.reduceToNat, Nat.reduceBEq, List.size_toArray, List.length_cons, List.length_nil, Bool.false_and, Bool.true_and, Bool.or_false, Bool.false_or, Bool.and_false, Bool.and_true, s1, s3, s4, s5, s6, bn, b0, hkl, h5, q]
    by_cases h5' : (i : Int) ≤ nth (nth p i) k
    · have q := bad (by simp only [parB, inB, decide_eq_false (show ¬ (0 ≤ nth (nth p i) k ∧ nth (nth p i) k ≤ (i : Int) - 1) by omega), Bool.false_and])
      simp (disch := first | (simp only [go_sem, Bool.and_self, eq_self]; done) | omega | (simp only [List.length_cons, List.length_nil]; omega)) only [go_sem, ↓reduceIte, Nat.reduceEqDiff, Nat.reduceAdd, Nat.reduceMul, Nat.reduceSub, Int.reduceToNat, Nat.reduceBEq, List.size_toArray, List.length_cons, List.length_nil, Bool.false_and, Bool.true_and, Bool.or_false, Bool.false_or, Bool.and_false, Bool.and_true, s1, s3, s4, s5, s6, bn, b0, hkl, h5, h5', q]
    have h5i : inB (nth (nth p i) k) 0 ((i : Int) - 1) = true := by simp only [inB, decide_eq_true_eq]; omega
    by_cases h6 : (0 : Int) < k
    case neg =>
      have hk0 : k = 0 := by omega
      subst hk0
      simp (disch := first | (simp only [go_sem, Bool.and_self, eq_self]; done) | omega | (simp only [List.length_cons, List.length_nil]; omega)) only [go_sem, ↓reduceIte, Nat.reduceEqDiff, Nat.reduceAdd, Nat.reduceMul, Nat.reduceSub, Int.reduceToNat, Nat.reduceBEq, List.size_toArray, List.length_cons, List.length_nil, Bool.false_and, Bool.true_and, Bool.or_false, Bool.false_or, Bool.and_false, Bool.and_true, s1, s3, s4, s5, s6, bn, b0, hkl, h5, h5', h6]
      rw [ForK_normal]
      refine ⟨hkl, by simp (disch := first | (simp only [go_sem, Bool.and_self, eq_self]; done) | omega | (simp only [List.length_cons, List.length_nil]; omega)) only [go_sem, ↓reduceIte, Nat.reduceEqDiff, Nat.reduceAdd, Nat.reduceMul, Nat.reduceSub, Int.reduceToNat, Nat.reduceBEq, List.size_toArray, List.length_cons, List.length_nil, Bool.false_and, Bool.true_and, Bool.or_false, Bool.false_or, Bool.and_false, Bool.and_true, s6], by simp (disch := first | (simp only [go_sem, Bool.and_self, eq_self]; done) | omega | (simp only [List.length_cons, List.length_nil]; omega)) only [go_sem, ↓reduceIte, Nat.reduceEqDiff, Nat.reduceAdd, Nat.reduceMul, Nat.reduceSub, Int.reduceToNat, Nat.reduceBEq, List.size_toArray, List.length_cons, List.length_nil, Bool.false_and, Bool.true_and, Bool.or_false, Bool.false_or, Bool.and_false, Bool.and_true, s1], by simp (disch := first | (simp only [go_sem, Bool.and_self, eq_self]; done) | omega | (simp only [List.length_cons, List.length_nil]; omega)) only [go_sem, ↓reduceIte, Nat.reduceEqDiff, Nat.reduceAdd, Nat.reduceMul, Nat.reduceSub, Int.reduceToNat, Nat.reduceBEq, List.size_toArray, List.length_cons, List.length_nil, Bool.false_and, Bool.true_and, Bool.or_false, Bool.false_or, Bool.and_false, Bool.and_true, s3], by simp (disch := first | (simp only [go_sem, Bool.and_self, eq_self]; done) | omega | (simp only [List.length_cons, List.length_nil]; omega)) only [go_sem, ↓reduceIte, Nat.reduceEqDiff, Nat.reduceAdd, Nat.reduceMul, Nat.reduceSub, Int.reduceToNat, Nat.reduceBEq, List.size_toArray, List.length_cons, List.length_nil, Bool.false_and, Bool.true_and, Bool.or_false, Bool.false_or, Bool.and_false, Bool.and_true, s4], by simp (disch := first | (simp only [go_sem, Bool.and_self, eq_self]; done) | omega | (simp only [List.length_cons, List.length_nil]; omega)) only [go_sem, ↓reduceIte, Nat.reduceEqDiff, Nat.reduceAdd, Nat.reduceMul, Nat.reduceSub, Int.reduceToNat, Nat.reduceBEq, List.size_toArray, List.length_cons, List.length_nil, Bool.false_and, Bool.true_and, Bool.or_false, Bool.false_or, Bool.and_false, Bool.and_true, s5], by simp (disch := first | (simp only [go_sem, Bool.and_self, eq_self]; done) | omega | (simp only [List.length_cons, List.length_nil]; omega)) only [go_sem, ↓reduceIte, Nat.reduceEqDiff, Nat.reduceAdd, Nat.reduceMul, Nat.reduceSub, Int.reduceToNat, Nat.reduceBEq, List.size_toArray, List.length_cons, List.length_nil, Bool.false_and, Bool.true_and, Bool.or_false, Bool.false_or, Bool.and_false, Bool.and_true, bn], by simp (disch := first | (simp only [go_sem, Bool.and_self, eq_self]; done) | omega | (simp only [List.length_cons, List.length_nil]; omega)) only [go_sem, ↓reduceIte, Nat.reduceEqDiff, Nat.reduceAdd, Nat.reduceMul, Nat.reduceSub, Int.reduceToNat, Nat.reduceBEq, List.size_toArray, List.length_cons, List.length_nil, Bool.false_and, Bool.true_and, Bool.or_false, Bool.false_or, Bool.and_false, Bool.and_true, b0], fun j hj => ?_⟩
      rw [show j = 0 by omega]
      simp only [parB, h5i, beq_self_eq_true, Bool.true_or, Bool.and_self]
    have hk1 : ((k : Int) - 1).toNat = k - 1 := by omega
    by_cases h7 : nth (nth p i) k ≤ nth (nth p i) (k - 1)
    · have q := bad (by simp only [parB, decide_eq_false (show ¬ nth (nth p i) (k - 1) < nth (nth p i) k by omega), show (k == 0) = false by simp; omega, Bool.or_false, Bool.and_false])
      simp (disch := first | (simp only [go_sem, Bool.and_self, eq_self]; done) | omega | (simp only [List.length_cons, List.length_nil]; omega)) only [go_sem, ↓reduceIte, Nat.reduceEqDiff, Nat.reduceAdd, Nat.reduceMul, Nat.reduceSub, Int.reduceToNat, Nat.reduceBEq, List.size_toArray, List.length_cons, List.length_nil, Bool.false_and, Bool.true_and, Bool.or_false, Bool.false_or, Bool.and_false, Bool.and_true, s1, s3, s4, s5, s6, bn, b0, hkl, h5, h5', h6, hk1, h7, q]
    simp (disch := first | (simp only [go_sem, Bool.and_self, eq_self]; done) | omega | (simp only [List.length_cons, List.length_nil]; omega)) only [go_sem, ↓reduceIte, Nat.reduceEqDiff, Nat.reduceAdd, Nat.reduceMul, Nat.reduceSub, Int.reduceToNat, Nat.reduceBEq, List.size_toArray, List.length_cons, List.length_nil, Bool.false_and, Bool.true_and, Bool.or_false, Bool.false_or, Bool.and_false, Bool.and_true, s1, s3, s4, s5, s6, bn, b0, hkl, h5, h5', h6, hk1, h7]
    rw [ForK_normal]
    refine ⟨hkl, by simp (disch := first | (simp only [go_sem, Bool.and_self, eq_self]; done) | omega | (simp only [List.length_cons, List.length_nil]; omega)) only [go_sem, ↓reduceIte, Nat.reduceEqDiff, Nat.reduceAdd, Nat.reduceMul, Nat.reduceSub, Int.reduceToNat, Nat.reduceBEq, List.size_toArray, List.length_cons, List.length_nil, Bool.false_and, Bool.true_and, Bool.or_false, Bool.false_or, Bool.and_false, Bool.and_true, s6], by simp (disch := first | (simp only [go_sem, Bool.and_self, eq_self]; done) | omega | (simp only [List.length_cons, List.length_nil]; omega)) only [go_sem, ↓reduceIte, Nat.reduceEqDiff, Nat.reduceAdd, Nat.reduceMul, Nat.reduceSub, Int.reduceToNat, Nat.reduceBEq, List.size_toArray, List.length_cons, List.length_nil, Bool.false_and, Bool.true_and, Bool.or_false, Bool.false_or, Bool.and_false, Bool.and_true, s1], by simp (disch := first | (simp only [go_sem, Bool.and_self, eq_self]; done) | omega | (simp only [List.length_cons, List.length_nil]; omega)) only [go_sem, ↓reduceIte, Nat.reduceEqDiff, Nat.reduceAdd, Nat.reduceMul, Nat.reduceSub, Int.reduceToNat, Nat.reduceBEq, List.size_toArray, List.length_cons, List.length_nil, Bool.false_and, Bool.true_and, Bool.or_false, Bool.false_or, Bool.and_false, Bool.and_true, s3], by simp (disch := first | (simp only [go_sem, Bool.and_self, eq_self]; done) | omega | (simp only [List.length_cons, List.length_nil]; omega)) only [go_sem, ↓reduceIte, Nat.reduceEqDiff, Nat.reduceAdd, Nat.reduceMul, Nat.reduceSub, Int.reduceToNat, Nat.reduceBEq, List.size_toArray, List.length_cons, List.length_nil, Bool.false_and, Bool.true_and, Bool.or_false, Bool.false_or, Bool.and_false, Bool.and_true, s4], by simp (disch := first | (simp only [go_sem, Bool.and_self, eq_self]; done) | omega | (simp only [List.length_cons, List.length_nil]; omega)) only [go_sem, ↓reduceIte, Nat.reduceEqDiff, Nat.reduceAdd, Nat.reduceMul, Nat.reduceSub, Int.reduceToNat, Nat.reduceBEq, List.size_toArray, List.length_cons, List.length_nil, Bool.false_and, Bool.true_and, Bool.or_false, Bool.false_or, Bool.and_false, Bool.and_true, s5], by simp (disch := first | (simp only [go_sem, Bool.and_self, eq_self]; done) | omega | (simp only [List.length_cons, List.length_nil]; omega)) only [go_sem, ↓reduceIte, Nat.reduceEqDiff, Nat.reduceAdd, Nat.reduceMul, Nat.reduceSub, Int.reduceToNat, Nat.reduceBEq, List.size_toArray, List.length_cons, List.length_nil, Bool.false_and, Bool.true_and, Bool.or_false, Bool.false_or, Bool.and_false, Bool.and_true, bn], by simp (disch := first | (simp only [go_sem, Bool.and_self, eq_self]; done) | omega | (simp only [List.length_cons, List.length_nil]; omega)) only [go_sem, ↓reduceIte, Nat.reduceEqDiff, Nat.reduceAdd, Nat.reduceMul, Nat.reduceSub, Int.reduceToNat, Nat.reduceBEq, List.size_toArray, List.length_cons, List.length_nil, Bool.false_and, Bool.true_and, Bool.or_false, Bool.false_or, Bool.and_false, Bool.and_true, b0], fun j hj => ?_⟩
    rcases Nat.lt_or_ge j k with h | h
    · exact hm j h
    · rw [show j = k by omega]
      simp only [parB, h5i, decide_eq_true (show nth (nth p i) (k - 1) < nth (nth p i) k by omega), Bool.or_true, Bool.and_self]
  · rintro st h ⟨s1, s3, s4, bn, b0, hpar⟩
    simp (disch := first | (simp only [go_sem, Bool.and_self, eq_self]; done) | omega | (simp only [List.length_cons, List.length_nil]; omega)) only [go_sem, ↓reduceIte, Nat.reduceEqDiff, Nat.reduceAdd, Nat.reduceMul, Nat.reduceSub, Int.reduceToNat, Nat.reduceBEq, List.size_toArray, List.length_cons, List.length_nil, Bool.false_and, Bool.true_and, Bool.or_false, Bool.false_or, Bool.and_false, Bool.and_true, s1, s3, s4, bn, b0]
    refine WP_cut (fun st h => st 1 = .ptr 0 0 ∧ st 3 = I p.length ∧ st 4 = I i ∧ h.nx = 1 ∧ h.bl 0 = some (.cells false false [LLI p, LLI t]) ∧ ∀ j, j < (nth t i).length → inB (nth (nth t i) j) 0 16 = true) ?_ ?_
    · refine WP_for 7 (nth t i).length (fun k st h => st 1 = .ptr 0 0 ∧ st 3 = I p.length ∧ st 4 = I i ∧ h.nx = 1 ∧ h.bl 0 = some (.cells false false [LLI p, LLI t]) ∧ ∀ j, j < k → inB (nth (nth t i) j) 0 16 = true) (by simp (disch := first | (simp only [go_sem, Bool.and_self, eq_self]; done) | omega | (simp only [List.length_cons, List.length_nil]; omega)) only [go_sem, ↓reduceIte, Nat.reduceEqDiff, Nat.reduceAdd, Nat.reduceMul, Nat.reduceSub, Int.reduceToNat, Nat.reduceBEq, List.size_toArray, List.length_cons, List.length_nil, Bool.false_and, Bool.true_and, Bool.or_false, Bool.false_or, Bool.and_false, Bool.and_true]) ⟨by simp (disch := first | (simp only [go_sem, Bool.and_self, eq_self]; done) | omega | (simp only [List.length_cons, List.length_nil]; omega)) only [go_sem, ↓reduceIte, Nat.reduceEqDiff, Nat.reduceAdd, Nat.reduceMul, Nat.reduceSub, Int.reduceToNat, Nat.reduceBEq, List.size_toArray, List.length_cons, List.length_nil, Bool.false_and, Bool.true_and, Bool.or_false, Bool.false_or, Bool.and_false, Bool.and_true, s1], by simp (disch := first | (simp only [go_sem, Bool.and_self, eq_self]; done) | omega | (simp only [List.length_cons, List.length_nil]; omega)) only [go_sem, ↓reduceIte, Nat.reduceEqDiff, Nat.reduceAdd, Nat.reduceMul, Nat.reduceSub, Int.reduceToNat, Nat.reduceBEq, List.size_toArray, List.length_cons, List.length_nil, Bool.false_and, Bool.true_and, Bool.or_false, Bool.false_or, Bool.and_false, Bool.and_true, s3], by simp (disch := first | (simp only [go_sem, Bool.and_self, eq_self]; done) | omega | (simp only [List.length_cons, List.length_nil]; omega)) only [go_sem, ↓reduceIte, Nat.reduceEqDiff, Nat.reduceAdd, Nat.reduceMul, Nat.reduceSub, Int.reduceToNat, Nat.reduceBEq, List.size_toArray, List.length_cons, List.length_nil, Bool.false_and, Bool.true_and, Bool.or_false, Bool.false_or, Bool.and_false, Bool.and_true, s4], by simp (disch := first | (simp only [go_sem, Bool.and_self, eq_self]; done) | omega | (simp only [List.length_cons, List.length_nil]; omega)) only [go_sem, ↓reduceIte, Nat.reduceEqDiff, Nat.reduceAdd, Nat.reduceMul, Nat.reduceSub, Int.reduceToNat, Nat.reduceBEq, List.size_toArray, List.length_cons, List.length_nil, Bool.false_and, Bool.true_and, Bool.or_false, Bool.false_or, Bool.and_false, Bool.and_true, bn], by simp (disch := first | (simp only [go_sem, Bool.and_self, eq_self]; done) | omega | (simp only [List.length_cons, List.length_nil]; omega)) only [go_sem, ↓reduceIte, Nat.reduceEqDiff, Nat.reduceAdd, Nat.reduceMul, Nat.reduceSub, Int.reduceToNat, Nat.reduceBEq, List.size_toArray, List.length_cons, List.length_nil, Bool.false_and, Bool.true_and, Bool.or_false, Bool.false_or, Bool.and_false, Bool.and_true, b0], by omega⟩ ?_
      rintro k st h hk s7 ⟨s1, s3, s4, bn, b0, hm⟩
      by_cases hkl : k < (nth t i).length
      case neg =>
        simp (disch := first | (simp only [go_sem, Bool.and_self, eq_self]; done) | omega | (simp only [List.length_cons, List.length_nil]; omega)) only [go_sem, ↓reduceIte, Nat.reduceEqDiff, Nat.reduceAdd, Nat.reduceMul, Nat.reduceSub, Int.reduceToNat, Nat.reduceBEq, List.size_toArray, List.length_cons, List.length_nil, Bool.false_and, Bool.true_and, Bool.or_false, Bool.false_or, Bool.and_false, Bool.and_true, s1, s3, s4, s7, bn, b0, hlt2, hkl]
        exact fun j hj => hm j (by omega)
      have bad : inB (nth (nth t i) k) 0 16 = false → netB p t = false := fun hb =>
        netB_f hlt (t := t) (by simp only [rowB, any_of_nth hkl (f := fun x => !inB x 0 16) (by simp only [hb]; rfl), Bool.not_true, Bool.and_false])
      by_cases h8 : nth (nth t i) k < 0
      · have q := bad (by simp only [inB]; exact decide_eq_false (by omega))
        simp (disch := first | (simp only [go_sem, Bool.and_self, eq_self]; done) | omega | (simp only [List.length_cons, List.length_nil]; omega)) only [go_sem, ↓reduceIte, Nat.reduceEqDiff, Nat.reduceAdd, Nat.reduceMul, Nat.reduceSub, Int.reduceToNat, Nat.reduceBEq, List.size_toArray, List.length_cons, List.length_nil, Bool.false_and, Bool.true_and, Bool.or_false, Bool.false_or, Bool.and_false, Bool.and_true, s1, s3, s4, s7, bn, b0, hlt2, hkl, h8, q]
      by_cases h9 : (16 : Int) < nth (nth t i) k
      · have q := bad (by simp only [inB]; exact decide_eq_false (by omega))
        simp (disch := first | (simp only [go_sem, Bool.and_self, eq_self]; done) | omega | (simp only [List.length_cons, List.length_nil]; omega)) only [go_sem, ↓reduceIte, Nat.reduceEqDiff, Nat.reduceAdd, Nat.reduceMul, Nat.reduceSub, Int.reduceToNat, Nat.reduceBEq, List.size_toArray, List.length_cons, List.length_nil, Bool.false_and, Bool.true_and, Bool.or_false, Bool.false_or, Bool.and_false, Bool.and_true, s1, s3, s4, s7, bn, b0, hlt2, hkl, h8, h9, q]
      simp (disch := first | (simp only [go_sem, Bool.and_self, eq_self]; done) | omega | (simp only [List.length_cons, List.length_nil]; omega)) only [go_sem, ↓reduceIte, Nat.reduceEqDiff, Nat.reduceAdd, Nat.reduceMul, Nat.reduceSub, Int.reduceToNat, Nat.reduceBEq, List.size_toArray, List.length_cons, List.length_nil, Bool.false_and, Bool.true_and, Bool.or_false, Bool.false_or, Bool.and_false, Bool.and_true, s1, s3, s4, s7, bn, b0, hlt2, hkl, h8, h9]
      rw [ForK_normal]
      refine ⟨hkl, by simp (disch := first | (simp only [go_sem, Bool.and_self, eq_self]; done) | omega | (simp only [List.length_cons, List.length_nil]; omega)) only [go_sem, ↓reduceIte, Nat.reduceEqDiff, Nat.reduceAdd, Nat.reduceMul, Nat.reduceSub, Int.reduceToNat, Nat.reduceBEq, List.size_toArray, List.length_cons, List.length_nil, Bool.false_and, Bool.true_and, Bool.or_false, Bool.false_or, Bool.and_false, Bool.and_true, s7], by simp (disch := first | (simp only [go_sem, Bool.and_self, eq_self]; done) | omega | (simp only [List.length_cons, List.length_nil]; omega)) only [go_sem, ↓reduceIte, Nat.reduceEqDiff, Nat.reduceAdd, Nat.reduceMul, Nat.reduceSub, Int.reduceToNat, Nat.reduceBEq, List.size_toArray, List.length_cons, List.length_nil, Bool.false_and, Bool.true_and, Bool.or_false, Bool.false_or, Bool.and_false, Bool.and_true, s1], by simp (disch := first | (simp only [go_sem, Bool.and_self, eq_self]; done) | omega | (simp only [List.length_cons, List.length_nil]; omega)) only [go_sem, ↓reduceIte, Nat.reduceEqDiff, Nat.reduceAdd, Nat.reduceMul, Nat.reduceSub, Int.reduceToNat, Nat.reduceBEq, List.size_toArray, List.length_cons, List.length_nil, Bool.false_and, Bool.true_and, Bool.or_false, Bool.false_or, Bool.and_false, Bool.and_true, s3], by simp (disch := first | (simp only [go_sem, Bool.and_self, eq_self]; done) | omega | (simp only [List.length_cons, List.length_nil]; omega)) only [go_sem, ↓reduceIte, Nat.reduceEqDiff, Nat.reduceAdd, Nat.reduceMul, Nat.reduceSub, Int.reduceToNat, Nat.reduceBEq, List.size_toArray, List.length_cons, List.length_nil, Bool.false_and, Bool.true_and, Bool.or_false, Bool.false_or, Bool.and_false, Bool.and_true, s4], by simp (disch := first | (simp only [go_sem, Bool.and_self, eq_self]; done) | omega | (simp only [List.length_cons, List.length_nil]; omega)) only [go_sem, ↓reduceIte, Nat.reduceEqDiff, Nat.reduceAdd, Nat.reduceMul, Nat.reduceSub, Int.reduceToNat, Nat.reduceBEq, List.size_toArray, List.length_cons, List.length_nil, Bool.false_and, Bool.true_and, Bool.or_false, Bool.false_or, Bool.and_false, Bool.and_true, bn], by simp (disch := first | (simp only [go_sem, Bool.and_self, eq_self]; done) | omega | (simp only [List.length_cons, List.length_nil]; omega)) only [go_sem, ↓reduceIte, Nat.reduceEqDiff, Nat.reduceAdd, Nat.reduceMul, Nat.reduceSub, Int.reduceToNat, Nat.reduceBEq, List.size_toArray, List.length_cons, List.length_nil, Bool.false_and, Bool.true_and, Bool.or_false, Bool.false_or, Bool.and_false, Bool.and_true, b0], fun j hj => ?_⟩
      rcases Nat.lt_or_ge j k with h | h
      · exact hm j h
      · rw [show j = k by omega]
        simp only [inB, decide_eq_true_eq]; omega
    · rintro st h ⟨s1, s3, s4, bn, b0, hent⟩
      simp (disch := first | (simp only [go_sem, Bool.and_self, eq_self]; done) | omega | (simp only [List.length_cons, List.length_nil]; omega)) only [go_sem, ↓reduceIte, Nat.reduceEqDiff, Nat.reduceAdd, Nat.reduceMul, Nat.reduceSub, Int.reduceToNat, Nat.reduceBEq, List.size_toArray, List.length_cons, List.length_nil, Bool.false_and, Bool.true_and, Bool.or_false, Bool.false_or, Bool.and_false, Bool.and_true, s1, s3, s4]
      rw [ForK_normal]
      refine ⟨hlt, by simp (disch := first | (simp only [go_sem, Bool.and_self, eq_self]; done) | omega | (simp only [List.length_cons, List.length_nil]; omega)) only [go_sem, ↓reduceIte, Nat.reduceEqDiff, Nat.reduceAdd, Nat.reduceMul, Nat.reduceSub, Int.reduceToNat, Nat.reduceBEq, List.size_toArray, List.length_cons, List.length_nil, Bool.false_and, Bool.true_and, Bool.or_false, Bool.false_or, Bool.and_false, Bool.and_true, s1, s3, s4], by simp (disch := first | (simp only [go_sem, Bool.and_self, eq_self]; done) | omega | (simp only [List.length_cons, List.length_nil]; omega)) only [go_sem, ↓reduceIte, Nat.reduceEqDiff, Nat.reduceAdd, Nat.reduceMul, Nat.reduceSub, Int.reduceToNat, Nat.reduceBEq, List.size_toArray, List.length_cons, List.length_nil, Bool.false_and, Bool.true_and, Bool.or_false, Bool.false_or, Bool.and_false, Bool.and_true, s1, s3, s4], by simp (disch := first | (simp only [go_sem, Bool.and_self, eq_self]; done) | omega | (simp only [List.length_cons, List.length_nil]; omega)) only [go_sem, ↓reduceIte, Nat.reduceEqDiff, Nat.reduceAdd, Nat.reduceMul, Nat.reduceSub, Int.reduceToNat, Nat.reduceBEq, List.size_toArray, List.length_cons, List.length_nil, Bool.false_and, Bool.true_and, Bool.or_false, Bool.false_or, Bool.and_false, Bool.and_true, s1, s3, s4], by simp (disch := first | (simp only [go_sem, Bool.and_self, eq_self]; done) | omega | (simp only [List.length_cons, List.length_nil]; omega)) only [go_sem, ↓reduceIte, Nat.reduceEqDiff, Nat.reduceAdd, Nat.reduceMul, Nat.reduceSub, Int.reduceToNat, Nat.reduceBEq, List.size_toArray, List.length_cons, List.length_nil, Bool.false_and, Bool.true_and, Bool.or_false, Bool.false_or, Bool.and_false, Bool.and_true, bn], by simp (disch := first | (simp only [go_sem, Bool.and_self, eq_self]; done) | omega | (simp only [List.length_cons, List.length_nil]; omega)) only [go_sem, ↓reduceIte, Nat.reduceEqDiff, Nat.reduceAdd, Nat.reduceMul, Nat.reduceSub, Int.reduceToNat, Nat.reduceBEq, List.size_toArray, List.length_cons, List.length_nil, Bool.false_and, Bool.true_and, Bool.or_false, Bool.false_or, Bool.and_false, Bool.and_true, b0], fun j hj => ?_⟩
      rcases Nat.lt_or_ge j i with h | h
      · exact hn j h
      · rw [show j = i by omega]
        simp only [rowB, decide_eq_true (show (nth p i).length ≤ 3 by omega), decide_eq_true (show (nth t i).length = 2 ^ (nth p i).length by omega), all_range hpar, not_any_nth (f := fun x => !inB x 0 16) (xs := nth t i) (fun j hj => by simp only [hent j hj]; rfl), Bool.not_false, Bool.and_self]
theorem k19 (p t : List (List Int)) (hp : okLL p) (ht : okLL t) : ConW Try.prog cfg 19 h (some ([.agg [LLI p, LLI t]], h')) K = K (.bool (netB p t)) h := ConW_num (f19_con p t hp ht) rfl

end Go.Proofs.Ytpkakapbepkfdaa

set_option linter.unusedVariables false
set_option linter.unusedSimpArgs false
set_option maxRecDepth 10000
namespace Go.Proofs.Ytpkakapbepkfdaa
open Go Go.Am

variable {h h' : Hp} {K : AV → Hp → Prop}

theorem f62_con (a b : Int) (ha : 0 ≤ a ∧ a ≤ 4611686018427387904) (hb : 0 ≤ b ∧ b ≤ 4611686018427387904) : Con Try.prog cfg 62 [I a, I b] (I (gcdI a b)) := by
  refine Con_intro Try.func62 rfl ok62 (Nat.le_of_ble_eq_true rfl) rfl ?_
  simp only [Try.f62, Option.getD_some, initSt2]
  simp (disch := first | (simp only [go_sem, Bool.and_self, eq_self]; done) | omega | (simp only [List.length_cons, List.length_nil]; omega)) only [go_sem, ↓reduceIte, Nat.reduceEqDiff, Nat.reduceAdd, Nat.reduceMul, Nat.reduceSub, Int.reduceToNat, Nat.reduceBEq, List.size_toArray, List.length_cons, List.length_nil, Bool.false_and, Bool.true_and, Bool.or_false, Bool.false_or, Bool.and_false, Bool.and_true]
  refine WP_loopK (fun m st h => ∃ x y : Int, m = y.toNat ∧ 0 ≤ x ∧ x ≤ 4611686018427387904 ∧ 0 ≤ y ∧ y ≤ 4611686018427387904 ∧ gcdI x y = gcdI a b ∧ st 0 = I x ∧ st 1 = I y) b.toNat
    ⟨a, b, rfl, ha.1, ha.2, hb.1, hb.2, rfl, by simp (disch := first | (simp only [go_sem, Bool.and_self, eq_self]; done) | omega | (simp only [List.length_cons, List.length_nil]; omega)) only [go_sem, ↓reduceIte, Nat.reduceEqDiff, Nat.reduceAdd, Nat.reduceMul, Nat.reduceSub, Int.reduceToNat, Nat.reduceBEq, List.size_toArray, List.length_cons, List.length_nil, Bool.false_and, Bool.true_and, Bool.or_false, Bool.false_or, Bool.and_false, Bool.and_true], by simp (disch := first | (simp only [go_sem, Bool.and_self, eq_self]; done) | omega | (simp only [List.length_cons, List.length_nil]; omega)) only [go_sem, ↓reduceIte, Nat.reduceEqDiff, Nat.reduceAdd, Nat.reduceMul, Nat.reduceSub, Int.reduceToNat, Nat.reduceBEq, List.size_toArray, List.length_cons, List.length_nil, Bool.false_and, Bool.true_and, Bool.or_false, Bool.false_or, Bool.and_false, Bool.and_true]⟩ ?_
  rintro n st h ⟨x, y, rfl, hx0, hx1, hy0, hy1, hgg, s0, s1⟩
  by_cases hy : 0 < y
  case neg =>
    obtain rfl : y = 0 := by omega
    rw [gcdI_zero hx0] at hgg
    subst hgg
    have h00 : ¬ (0 : Int) < 0 := by decide
    simp (disch := first | (simp only [go_sem, Bool.and_self, eq_self]; done) | omega | (simp only [List.length_cons, List.length_nil]; omega)) only [go_sem, ↓reduceIte, Nat.reduceEqDiff, Nat.reduceAdd, Nat.reduceMul, Nat.reduceSub, Int.reduceToNat, Nat.reduceBEq, List.size_toArray, List.length_cons, List.length_nil, Bool.false_and, Bool.true_and, Bool.or_false, Bool.false_or, Bool.and_false, Bool.and_true, s0, s1, h00]
  have hy' : ¬ y = 0 := by omega
  have hm0 : 0 ≤ x.tmod y := Int.tmod_nonneg y hx0
  have hm1 : x.tmod y < y := Int.tmod_lt_of_pos x (by omega)
  simp (disch := first | (simp only [go_sem, Bool.and_self, eq_self]; done) | omega | (simp only [List.length_cons, List.length_nil]; omega)) only [go_sem, ↓reduceIte, Nat.reduceEqDiff, Nat.reduceAdd, Nat.reduceMul, Nat.reduceSub, Int.reduceToNat, Nat.reduceBEq, List.size_toArray, List.length_cons, List.length_nil, Bool.false_and, Bool.true_and, Bool.or_false, Bool.false_or, Bool.and_false, Bool.and_true, s0, s1, hy, hy']
  rw [LoopK_normal]
  exact ⟨(x.tmod y).toNat, by omega, y, x.tmod y, rfl, by omega, by omega, hm0, by omega, (gcdI_step hx0 (by omega)).trans hgg, by simp (disch := first | (simp only [go_sem, Bool.and_self, eq_self]; done) | omega | (simp only [List.length_cons, List.length_nil]; omega)) only [go_sem, ↓reduceIte, Nat.reduceEqDiff, Nat.reduceAdd, Nat.reduceMul, Nat.reduceSub, Int.reduceToNat, Nat.reduceBEq, List.size_toArray, List.length_cons, List.length_nil, Bool.false_and, Bool.true_and, Bool.or_false, Bool.false_or, Bool.and_false, Bool.and_true], by simp (disch := first | (simp only [go_sem, Bool.and_self, eq_self]; done) | omega | (simp only [List.length_cons, List.length_nil]; omega)) only [go_sem, ↓reduceIte, Nat.reduceEqDiff, Nat.reduceAdd, Nat.reduceMul, Nat.reduceSub, Int.reduceToNat, Nat.reduceBEq, List.size_toArray, List.length_cons, List.length_nil, Bool.false_and, Bool.true_and, Bool.or_false, Bool.false_or, Bool.and_false, Bool.and_true]⟩
theorem k62 (a b : Int) (ha : 0 ≤ a ∧ a ≤ 4611686018427387904) (hb : 0 ≤ b ∧ b ≤ 4611686018427387904) : ConW Try.prog cfg 62 h (some ([I a, I b], h')) K = K (I (gcdI a b)) h := ConW_num (f62_con a b ha hb) rfl

theorem f35_con (a b : Int) (ha : 0 ≤ a ∧ a ≤ 4611686018427387904) (hb : 0 < b ∧ b ≤ 4611686018427387904) : Con Try.prog cfg 35 [I a, I b] (redu a b) := by
  have hg := gcdI_pos (a := a) hb.1
  have kg := fun h h' K => k62 (h := h) (h' := h') (K := K) a b ha ⟨by omega, hb.2⟩
  have e1 : max a (0 - a) = a := by omega
  have hb0 : ¬ b < 0 := by omega
  have d1 := div_bounds ha.1 hg
  have d2 := div_bounds (Int.le_of_lt hb.1) hg
  have t1 : a.tdiv (gcdI a b) = a / gcdI a b := Int.tdiv_eq_ediv_of_nonneg ha.1
  have t2 : b.tdiv (gcdI a b) = b / gcdI a b := Int.tdiv_eq_ediv_of_nonneg (Int.le_of_lt hb.1)
  have g0 : ¬ gcdI a b = 0 := by omega
  refine Con_intro Try.func35 rfl ok35 (Nat.le_of_ble_eq_true rfl) rfl ?_
  simp only [Try.f35, Option.getD_some, initSt2]
  simp (disch := first | (simp only [go_sem, Bool.and_self, eq_self]; done) | omega | (simp only [List.length_cons, List.length_nil]; omega)) only [go_sem, ↓reduceIte, Nat.reduceEqDiff, Nat.reduceAdd, Nat.reduceMul, Nat.reduceSub, Int.reduceToNat, Nat.reduceBEq, List.size_toArray, List.length_cons, List.length_nil, Bool.false_and, Bool.true_and, Bool.or_false, Bool.false_or, Bool.and_false, Bool.and_true, e1, hb0, kg, t1, t2, g0]
  rfl
theorem k35 (a b : Int) (ha : 0 ≤ a ∧ a ≤ 4611686018427387904) (hb : 0 < b ∧ b ≤ 4611686018427387904) : ConW Try.prog cfg 35 h (some ([I a, I b], h')) K = K (redu a b) h := ConW_num (f35_con a b ha hb) rfl

/-- A row of values, one for each variable. -/
structure Row (p : List (List Int)) (v : List Int) : Prop where
  len : v.length = p.length
  bit : ∀ i, i < p.length → nth v i = 0 ∨ nth v i = 1
theorem caseF_congr {r v w : List Int} : ∀ {j : Nat}, (∀ k, k < j → nth v (nth r k).toNat = nth w (nth r k).toNat) → caseF r v j = caseF r w j
  | 0, _ => rfl
  | j + 1, h => by simp only [caseF]; rw [caseF_congr (j := j) fun k hk => h k (by omega), h j (by omega)]
theorem wt_congr {p t : List (List Int)} (N : Net p t) {v w : List Int} {i : Nat} (hi : i < p.length) (h : ∀ k, k < p.length → nth v k = nth w k) : wt p t v i = wt p t w i := by
  have : caseF (nth p i) v (nth p i).length = caseF (nth p i) w (nth p i).length := caseF_congr fun k hk => by
    obtain ⟨a0, a1⟩ := N.par i k hi hk
    exact h _ (by omega)
  simp only [wt, this, h i hi]
theorem prodN_congr {f g : Nat → Int} : ∀ {n : Nat}, (∀ i, i < n → f i = g i) → prodN f n = prodN g n
  | 0, _ => rfl
  | n + 1, h => by rw [prodN, prodN, prodN_congr fun i hi => h i (Nat.lt_succ_of_lt hi), h n (Nat.lt_succ_self n)]
theorem weight_congr {p t : List (List Int)} (N : Net p t) {v w : List Int} (h : ∀ k, k < p.length → nth v k = nth w k) : weightB p t v p.length = weightB p t w p.length :=
  prodN_congr fun i hi => wt_congr N hi h

theorem f53_con (p t : List (List Int)) (N : Net p t) (v : List Int) (hv : Row p v) : Con Try.prog cfg 53 [.agg [LLI p, LLI t], LI v] (I (weightB p t v p.length)) := by
  have hn1 := N.n1
  have htl := N.tl
  have hvl := hv.len
  refine Con_intro Try.func53 rfl ok53 (Nat.le_of_ble_eq_true rfl) rfl ?_
  simp only [Try.f53, Option.getD_some, initSt2]
  simp (disch := first | (simp only [go_sem, Bool.and_self, eq_self]; done) | omega | (simp only [List.length_cons, List.length_nil]; omega)) only [go_sem, ↓reduceIte, Nat.reduceEqDiff, Nat.reduceAdd, Nat.reduceMul, Nat.reduceSub, Int.reduceToNat, Nat.reduceBEq, List.size_toArray, List.length_cons, List.length_nil, Bool.false_and, Bool.true_and, Bool.or_false, Bool.false_or, Bool.and_false, Bool.and_true]
  refine WP_for 6 p.length (fun i st h => st 1 = LI v ∧ st 2 = .ptr 0 0 ∧ st 5 = I (weightB p t v i) ∧ h.nx = 1 ∧ h.bl 0 = some (.cells false false [LLI p, LLI t])) (by simp (disch := first | (simp only [go_sem, Bool.and_self, eq_self]; done) | omega | (simp only [List.length_cons, List.length_nil]; omega)) only [go_sem, ↓reduceIte, Nat.reduceEqDiff, Nat.reduceAdd, Nat.reduceMul, Nat.reduceSub, Int.reduceToNat, Nat.reduceBEq, List.size_toArray, List.length_cons, List.length_nil, Bool.false_and, Bool.true_and, Bool.or_false, Bool.false_or, Bool.and_false, Bool.and_true]) ⟨by simp (disch := first | (simp only [go_sem, Bool.and_self, eq_self]; done) | omega | (simp only [List.length_cons, List.length_nil]; omega)) only [go_sem, ↓reduceIte, Nat.reduceEqDiff, Nat.reduceAdd, Nat.reduceMul, Nat.reduceSub, Int.reduceToNat, Nat.reduceBEq, List.size_toArray, List.length_cons, List.length_nil, Bool.false_and, Bool.true_and, Bool.or_false, Bool.false_or, Bool.and_false, Bool.and_true], by simp (disch := first | (simp only [go_sem, Bool.and_self, eq_self]; done) | omega | (simp only [List.length_cons, List.length_nil]; omega)) only [go_sem, ↓reduceIte, Nat.reduceEqDiff, Nat.reduceAdd, Nat.reduceMul, Nat.reduceSub, Int.reduceToNat, Nat.reduceBEq, List.size_toArray, List.length_cons, List.length_nil, Bool.false_and, Bool.true_and, Bool.or_false, Bool.false_or, Bool.and_false, Bool.and_true], by simp (disch := first | (simp only [go_sem, Bool.and_self, eq_self]; done) | omega | (simp only [List.length_cons, List.length_nil]; omega)) only [go_sem, ↓reduceIte, Nat.reduceEqDiff, Nat.reduceAdd, Nat.reduceMul, Nat.reduceSub, Int.reduceToNat, Nat.reduceBEq, List.size_toArray, List.length_cons, List.length_nil, Bool.false_and, Bool.true_and, Bool.or_false, Bool.false_or, Bool.and_false, Bool.and_true]; rfl, by simp (disch := first | (simp only [go_sem, Bool.and_self, eq_self]; done) | omega | (simp only [List.length_cons, List.length_nil]; omega)) only [go_sem, ↓reduceIte, Nat.reduceEqDiff, Nat.reduceAdd, Nat.reduceMul, Nat.reduceSub, Int.reduceToNat, Nat.reduceBEq, List.size_toArray, List.length_cons, List.length_nil, Bool.false_and, Bool.true_and, Bool.or_false, Bool.false_or, Bool.and_false, Bool.and_true], by simp (disch := first | (simp only [go_sem, Bool.and_self, eq_self]; done) | omega | (simp only [List.length_cons, List.length_nil]; omega)) only [go_sem, ↓reduceIte, Nat.reduceEqDiff, Nat.reduceAdd, Nat.reduceMul, Nat.reduceSub, Int.reduceToNat, Nat.reduceBEq, List.size_toArray, List.length_cons, List.length_nil, Bool.false_and, Bool.true_and, Bool.or_false, Bool.false_or, Bool.and_false, Bool.and_true]⟩ ?_
  rintro i st h hi s6 ⟨s1, s2, s5, bn, b0⟩
  by_cases hlt : i < p.length
  case neg =>
    have hii : i = p.length := by omega
    simp (disch := first | (simp only [go_sem, Bool.and_self, eq_self]; done) | omega | (simp only [List.length_cons, List.length_nil]; omega)) only [go_sem, ↓reduceIte, Nat.reduceEqDiff, Nat.reduceAdd, Nat.reduceMul, Nat.reduceSub, Int.reduceToNat, Nat.reduceBEq, List.size_toArray, List.length_cons, List.length_nil, Bool.false_and, Bool.true_and, Bool.or_false, Bool.false_or, Bool.and_false, Bool.and_true, s1, s2, s5, s6, bn, b0, hlt]
    rw [hii]
  have hpl := N.pl i hlt
  simp (disch := first | (simp only [go_sem, Bool.and_self, eq_self]; done) | omega | (simp only [List.length_cons, List.length_nil]; omega)) only [go_sem, ↓reduceIte, Nat.reduceEqDiff, Nat.reduceAdd, Nat.reduceMul, Nat.reduceSub, Int.reduceToNat, Nat.reduceBEq, List.size_toArray, List.length_cons, List.length_nil, Bool.false_and, Bool.true_and, Bool.or_false, Bool.false_or, Bool.and_false, Bool.and_true, s1, s2, s5, s6, bn, b0, hlt]
  refine WP_cut (fun st h => st 1 = LI v ∧ st 2 = .ptr 0 0 ∧ st 5 = I (weightB p t v i) ∧ st 6 = I i ∧ st 7 = I (caseF (nth p i) v (nth p i).length) ∧ h.nx = 1 ∧ h.bl 0 = some (.cells false false [LLI p, LLI t])) ?_ ?_
  · refine WP_for 8 (nth p i).length (fun k st h => st 1 = LI v ∧ st 2 = .ptr 0 0 ∧ st 5 = I (weightB p t v i) ∧ st 6 = I i ∧ st 7 = I (caseF (nth p i) v k) ∧ h.nx = 1 ∧ h.bl 0 = some (.cells false false [LLI p, LLI t])) (by simp (disch := first | (simp only [go_sem, Bool.and_self, eq_self]; done) | omega | (simp only [List.length_cons, List.length_nil]; omega)) only [go_sem, ↓reduceIte, Nat.reduceEqDiff, Nat.reduceAdd, Nat.reduceMul, Nat.reduceSub, Int.reduceToNat, Nat.reduceBEq, List.size_toArray, List.length_cons, List.length_nil, Bool.false_and, Bool.true_and, Bool.or_false, Bool.false_or, Bool.and_false, Bool.and_true]) ⟨by simp (disch := first | (simp only [go_sem, Bool.and_self, eq_self]; done) | omega | (simp only [List.length_cons, List.length_nil]; omega)) only [go_sem, ↓reduceIte, Nat.reduceEqDiff, Nat.reduceAdd, Nat.reduceMul, Nat.reduceSub, Int.reduceToNat, Nat.reduceBEq, List.size_toArray, List.length_cons, List.length_nil, Bool.false_and, Bool.true_and, Bool.or_false, Bool.false_or, Bool.and_false, Bool.and_true, s1, s2, s5, s6], by simp (disch := first | (simp only [go_sem, Bool.and_self, eq_self]; done) | omega | (simp only [List.length_cons, List.length_nil]; omega)) only [go_sem, ↓reduceIte, Nat.reduceEqDiff, Nat.reduceAdd, Nat.reduceMul, Nat.reduceSub, Int.reduceToNat, Nat.reduceBEq, List.size_toArray, List.length_cons, List.length_nil, Bool.false_and, Bool.true_and, Bool.or_false, Bool.false_or, Bool.and_false, Bool.and_true, s1, s2, s5, s6], by simp (disch := first | (simp only [go_sem, Bool.and_self, eq_self]; done) | omega | (simp only [List.length_cons, List.length_nil]; omega)) only [go_sem, ↓reduceIte, Nat.reduceEqDiff, Nat.reduceAdd, Nat.reduceMul, Nat.reduceSub, Int.reduceToNat, Nat.reduceBEq, List.size_toArray, List.length_cons, List.length_nil, Bool.false_and, Bool.true_and, Bool.or_false, Bool.false_or, Bool.and_false, Bool.and_true, s1, s2, s5, s6], by simp (disch := first | (simp only [go_sem, Bool.and_self, eq_self]; done) | omega | (simp only [List.length_cons, List.length_nil]; omega)) only [go_sem, ↓reduceIte, Nat.reduceEqDiff, Nat.reduceAdd, Nat.reduceMul, Nat.reduceSub, Int.reduceToNat, Nat.reduceBEq, List.size_toArray, List.length_cons, List.length_nil, Bool.false_and, Bool.true_and, Bool.or_false, Bool.false_or, Bool.and_false, Bool.and_true, s1, s2, s5, s6], by simp (disch := first | (simp only [go_sem, Bool.and_self, eq_self]; done) | omega | (simp only [List.length_cons, List.length_nil]; omega)) only [go_sem, ↓reduceIte, Nat.reduceEqDiff, Nat.reduceAdd, Nat.reduceMul, Nat.reduceSub, Int.reduceToNat, Nat.reduceBEq, List.size_toArray, List.length_cons, List.length_nil, Bool.false_and, Bool.true_and, Bool.or_false, Bool.false_or, Bool.and_false, Bool.and_true]; rfl, by simp (disch := first | (simp only [go_sem, Bool.and_self, eq_self]; done) | omega | (simp only [List.length_cons, List.length_nil]; omega)) only [go_sem, ↓reduceIte, Nat.reduceEqDiff, Nat.reduceAdd, Nat.reduceMul, Nat.reduceSub, Int.reduceToNat, Nat.reduceBEq, List.size_toArray, List.length_cons, List.length_nil, Bool.false_and, Bool.true_and, Bool.or_false, Bool.false_or, Bool.and_false, Bool.and_true, bn], by simp (disch := first | (simp only [go_sem, Bool.and_self, eq_self]; done) | omega | (simp only [List.length_cons, List.length_nil]; omega)) only [go_sem, ↓reduceIte, Nat.reduceEqDiff, Nat.reduceAdd, Nat.reduceMul, Nat.reduceSub, Int.reduceToNat, Nat.reduceBEq, List.size_toArray, List.length_cons, List.length_nil, Bool.false_and, Bool.true_and, Bool.or_false, Bool.false_or, Bool.and_false, Bool.and_true, b0]⟩ ?_
    rintro k st h hk s8 ⟨s1, s2, s5, s6, s7, bn, b0⟩
    by_cases hkl : k < (nth p i).length
    case neg =>
      have hkk : k = (nth p i).length := by omega
      simp (disch := first | (simp only [go_sem, Bool.and_self, eq_self]; done) | omega | (simp only [List.length_cons, List.length_nil]; omega)) only [go_sem, ↓reduceIte, Nat.reduceEqDiff, Nat.reduceAdd, Nat.reduceMul, Nat.reduceSub, Int.reduceToNat, Nat.reduceBEq, List.size_toArray, List.length_cons, List.length_nil, Bool.false_and, Bool.true_and, Bool.or_false, Bool.false_or, Bool.and_false, Bool.and_true, s1, s2, s5, s6, s7, s8, bn, b0, hlt, hkl]
      rw [hkk]
    obtain ⟨a0, a1⟩ := N.par i k hlt hkl
    have a2 : nth (nth p i) k < v.length := by omega
    have c1 := caseF_lt (nth p i) v k
    have c2 : 2 ^ k < 2 ^ 3 := Nat.pow_lt_pow_right (by omega) (by omega)
    by_cases hb : nth v (nth (nth p i) k).toNat = 1
    · have e1 := fun t => shl_one (P := Try.prog) t k (by omega)
      simp (disch := first | (simp only [go_sem, Bool.and_self, eq_self]; done) | omega | (simp only [List.length_cons, List.length_nil]; omega)) only [go_sem, ↓reduceIte, Nat.reduceEqDiff, Nat.reduceAdd, Nat.reduceMul, Nat.reduceSub, Int.reduceToNat, Nat.reduceBEq, List.size_toArray, List.length_cons, List.length_nil, Bool.false_and, Bool.true_and, Bool.or_false, Bool.false_or, Bool.and_false, Bool.and_true, s1, s2, s5, s6, s7, s8, bn, b0, hlt, hkl, a0, a2, hb, e1]
      rw [ForK_normal]
      refine ⟨hkl, by simp (disch := first | (simp only [go_sem, Bool.and_self, eq_self]; done) | omega | (simp only [List.length_cons, List.length_nil]; omega)) only [go_sem, ↓reduceIte, Nat.reduceEqDiff, Nat.reduceAdd, Nat.reduceMul, Nat.reduceSub, Int.reduceToNat, Nat.reduceBEq, List.size_toArray, List.length_cons, List.length_nil, Bool.false_and, Bool.true_and, Bool.or_false, Bool.false_or, Bool.and_false, Bool.and_true, s8], by simp (disch := first | (simp only [go_sem, Bool.and_self, eq_self]; done) | omega | (simp only [List.length_cons, List.length_nil]; omega)) only [go_sem, ↓reduceIte, Nat.reduceEqDiff, Nat.reduceAdd, Nat.reduceMul, Nat.reduceSub, Int.reduceToNat, Nat.reduceBEq, List.size_toArray, List.length_cons, List.length_nil, Bool.false_and, Bool.true_and, Bool.or_false, Bool.false_or, Bool.and_false, Bool.and_true, s1], by simp (disch := first | (simp only [go_sem, Bool.and_self, eq_self]; done) | omega | (simp only [List.length_cons, List.length_nil]; omega)) only [go_sem, ↓reduceIte, Nat.reduceEqDiff, Nat.reduceAdd, Nat.reduceMul, Nat.reduceSub, Int.reduceToNat, Nat.reduceBEq, List.size_toArray, List.length_cons, List.length_nil, Bool.false_and, Bool.true_and, Bool.or_false, Bool.false_or, Bool.and_false, Bool.and_true, s2], by simp (disch := first | (simp only [go_sem, Bool.and_self, eq_self]; done) | omega | (simp only [List.length_cons, List.length_nil]; omega)) only [go_sem, ↓reduceIte, Nat.reduceEqDiff, Nat.reduceAdd, Nat.reduceMul, Nat.reduceSub, Int.reduceToNat, Nat.reduceBEq, List.size_toArray, List.length_cons, List.length_nil, Bool.false_and, Bool.true_and, Bool.or_false, Bool.false_or, Bool.and_false, Bool.and_true, s5], by simp (disch := first | (simp only [go_sem, Bool.and_self, eq_self]; done) | omega | (simp only [List.length_cons, List.length_nil]; omega)) only [go_sem, ↓reduceIte, Nat.reduceEqDiff, Nat.reduceAdd, Nat.reduceMul, Nat.reduceSub, Int.reduceToNat, Nat.reduceBEq, List.size_toArray, List.length_cons, List.length_nil, Bool.false_and, Bool.true_and, Bool.or_false, Bool.false_or, Bool.and_false, Bool.and_true, s6], ?_, by simp (disch := first | (simp only [go_sem, Bool.and_self, eq_self]; done) | omega | (simp only [List.length_cons, List.length_nil]; omega)) only [go_sem, ↓reduceIte, Nat.reduceEqDiff, Nat.reduceAdd, Nat.reduceMul, Nat.reduceSub, Int.reduceToNat, Nat.reduceBEq, List.size_toArray, List.length_cons, List.length_nil, Bool.false_and, Bool.true_and, Bool.or_false, Bool.false_or, Bool.and_false, Bool.and_true, bn], by simp (disch := first | (simp only [go_sem, Bool.and_self, eq_self]; done) | omega | (simp only [List.length_cons, List.length_nil]; omega)) only [go_sem, ↓reduceIte, Nat.reduceEqDiff, Nat.reduceAdd, Nat.reduceMul, Nat.reduceSub, Int.reduceToNat, Nat.reduceBEq, List.size_toArray, List.length_cons, List.length_nil, Bool.false_and, Bool.true_and, Bool.or_false, Bool.false_or, Bool.and_false, Bool.and_true, b0]⟩
      simp (disch := first | (simp only [go_sem, Bool.and_self, eq_self]; done) | omega | (simp only [List.length_cons, List.length_nil]; omega)) only [go_sem, ↓reduceIte, Nat.reduceEqDiff, Nat.reduceAdd, Nat.reduceMul, Nat.reduceSub, Int.reduceToNat, Nat.reduceBEq, List.size_toArray, List.length_cons, List.length_nil, Bool.false_and, Bool.true_and, Bool.or_false, Bool.false_or, Bool.and_false, Bool.and_true]; simp [caseF, hb]
    · simp (disch := first | (simp only [go_sem, Bool.and_self, eq_self]; done) | omega | (simp only [List.length_cons, List.length_nil]; omega)) only [go_sem, ↓reduceIte, Nat.reduceEqDiff, Nat.reduceAdd, Nat.reduceMul, Nat.reduceSub, Int.reduceToNat, Nat.reduceBEq, List.size_toArray, List.length_cons, List.length_nil, Bool.false_and, Bool.true_and, Bool.or_false, Bool.false_or, Bool.and_false, Bool.and_true, s1, s2, s5, s6, s7, s8, bn, b0, hlt, hkl, a0, a2, hb]
      rw [ForK_normal]
      refine ⟨hkl, by simp (disch := first | (simp only [go_sem, Bool.and_self, eq_self]; done) | omega | (simp only [List.length_cons, List.length_nil]; omega)) only [go_sem, ↓reduceIte, Nat.reduceEqDiff, Nat.reduceAdd, Nat.reduceMul, Nat.reduceSub, Int.reduceToNat, Nat.reduceBEq, List.size_toArray, List.length_cons, List.length_nil, Bool.false_and, Bool.true_and, Bool.or_false, Bool.false_or, Bool.and_false, Bool.and_true, s8], by simp (disch := first | (simp only [go_sem, Bool.and_self, eq_self]; done) | omega | (simp only [List.length_cons, List.length_nil]; omega)) only [go_sem, ↓reduceIte, Nat.reduceEqDiff, Nat.reduceAdd, Nat.reduceMul, Nat.reduceSub, Int.reduceToNat, Nat.reduceBEq, List.size_toArray, List.length_cons, List.length_nil, Bool.false_and, Bool.true_and, Bool.or_false, Bool.false_or, Bool.and_false, Bool.and_true, s1], by simp (disch := first | (simp only [go_sem, Bool.and_self, eq_self]; done) | omega | (simp only [List.length_cons, List.length_nil]; omega)) only [go_sem, ↓reduceIte, Nat.reduceEqDiff, Nat.reduceAdd, Nat.reduceMul, Nat.reduceSub, Int.reduceToNat, Nat.reduceBEq, List.size_toArray, List.length_cons, List.length_nil, Bool.false_and, Bool.true_and, Bool.or_false, Bool.false_or, Bool.and_false, Bool.and_true, s2], by simp (disch := first | (simp only [go_sem, Bool.and_self, eq_self]; done) | omega | (simp only [List.length_cons, List.length_nil]; omega)) only [go_sem, ↓reduceIte, Nat.reduceEqDiff, Nat.reduceAdd, Nat.reduceMul, Nat.reduceSub, Int.reduceToNat, Nat.reduceBEq, List.size_toArray, List.length_cons, List.length_nil, Bool.false_and, Bool.true_and, Bool.or_false, Bool.false_or, Bool.and_false, Bool.and_true, s5], by simp (disch := first | (simp only [go_sem, Bool.and_self, eq_self]; done) | omega | (simp only [List.length_cons, List.length_nil]; omega)) only [go_sem, ↓reduceIte, Nat.reduceEqDiff, Nat.reduceAdd, Nat.reduceMul, Nat.reduceSub, Int.reduceToNat, Nat.reduceBEq, List.size_toArray, List.length_cons, List.length_nil, Bool.false_and, Bool.true_and, Bool.or_false, Bool.false_or, Bool.and_false, Bool.and_true, s6], ?_, by simp (disch := first | (simp only [go_sem, Bool.and_self, eq_self]; done) | omega | (simp only [List.length_cons, List.length_nil]; omega)) only [go_sem, ↓reduceIte, Nat.reduceEqDiff, Nat.reduceAdd, Nat.reduceMul, Nat.reduceSub, Int.reduceToNat, Nat.reduceBEq, List.size_toArray, List.length_cons, List.length_nil, Bool.false_and, Bool.true_and, Bool.or_false, Bool.false_or, Bool.and_false, Bool.and_true, bn], by simp (disch := first | (simp only [go_sem, Bool.and_self, eq_self]; done) | omega | (simp only [List.length_cons, List.length_nil]; omega)) only [go_sem, ↓reduceIte, Nat.reduceEqDiff, Nat.reduceAdd, Nat.reduceMul, Nat.reduceSub, Int.reduceToNat, Nat.reduceBEq, List.size_toArray, List.length_cons, List.length_nil, Bool.false_and, Bool.true_and, Bool.or_false, Bool.false_or, Bool.and_false, Bool.and_true, b0]⟩
      simp (disch := first | (simp only [go_sem, Bool.and_self, eq_self]; done) | omega | (simp only [List.length_cons, List.length_nil]; omega)) only [go_sem, ↓reduceIte, Nat.reduceEqDiff, Nat.reduceAdd, Nat.reduceMul, Nat.reduceSub, Int.reduceToNat, Nat.reduceBEq, List.size_toArray, List.length_cons, List.length_nil, Bool.false_and, Bool.true_and, Bool.or_false, Bool.false_or, Bool.and_false, Bool.and_true, s7]; simp [caseF, hb]
  · rintro st h ⟨s1, s2, s5, s6, s7, bn, b0⟩
    have c1 := caseF_lt (nth p i) v (nth p i).length
    have hlt2 : i < t.length := by omega
    have hlt3 : i < v.length := by omega
    have c2 : caseF (nth p i) v (nth p i).length < (nth t i).length := by rw [N.tt i hlt]; exact c1
    obtain ⟨w1, w2⟩ := weight_bounds N v (n := i) (by omega)
    obtain ⟨w3, w4⟩ := weight_bounds N v (n := i + 1) (by omega)
    have w5 := pow16_le (i := i + 1) (n := 10) (by omega) (by omega)
    obtain ⟨q1, q2⟩ := N.ent i _ hlt c2
    have w6 : weightB p t v (i + 1) = weightB p t v i * wt p t v i := rfl
    by_cases hz : nth v i = 1
    · have hw : wt p t v i = nth (nth t i) (caseF (nth p i) v (nth p i).length) := by simp only [wt, hz]; rfl
      rw [w6, hw] at w3 w4
      simp (disch := first | (simp only [go_sem, Bool.and_self, eq_self]; done) | omega | (simp only [List.length_cons, List.length_nil]; omega)) only [go_sem, ↓reduceIte, Nat.reduceEqDiff, Nat.reduceAdd, Nat.reduceMul, Nat.reduceSub, Int.reduceToNat, Nat.reduceBEq, List.size_toArray, List.length_cons, List.length_nil, Bool.false_and, Bool.true_and, Bool.or_false, Bool.false_or, Bool.and_false, Bool.and_true, s1, s2, s5, s6, s7, bn, b0, hlt, hlt2, hlt3, c2, hz]
      rw [ForK_normal]
      refine ⟨hlt, by simp (disch := first | (simp only [go_sem, Bool.and_self, eq_self]; done) | omega | (simp only [List.length_cons, List.length_nil]; omega)) only [go_sem, ↓reduceIte, Nat.reduceEqDiff, Nat.reduceAdd, Nat.reduceMul, Nat.reduceSub, Int.reduceToNat, Nat.reduceBEq, List.size_toArray, List.length_cons, List.length_nil, Bool.false_and, Bool.true_and, Bool.or_false, Bool.false_or, Bool.and_false, Bool.and_true, s1, s2, s5, s6], by simp (disch := first | (simp only [go_sem, Bool.and_self, eq_self]; done) | omega | (simp only [List.length_cons, List.length_nil]; omega)) only [go_sem, ↓reduceIte, Nat.reduceEqDiff, Nat.reduceAdd, Nat.reduceMul, Nat.reduceSub, Int.reduceToNat, Nat.reduceBEq, List.size_toArray, List.length_cons, List.length_nil, Bool.false_and, Bool.true_and, Bool.or_false, Bool.false_or, Bool.and_false, Bool.and_true, s1, s2, s5, s6], by simp (disch := first | (simp only [go_sem, Bool.and_self, eq_self]; done) | omega | (simp only [List.length_cons, List.length_nil]; omega)) only [go_sem, ↓reduceIte, Nat.reduceEqDiff, Nat.reduceAdd, Nat.reduceMul, Nat.reduceSub, Int.reduceToNat, Nat.reduceBEq, List.size_toArray, List.length_cons, List.length_nil, Bool.false_and, Bool.true_and, Bool.or_false, Bool.false_or, Bool.and_false, Bool.and_true, s1, s2, s5, s6], by simp (disch := first | (simp only [go_sem, Bool.and_self, eq_self]; done) | omega | (simp only [List.length_cons, List.length_nil]; omega)) only [go_sem, ↓reduceIte, Nat.reduceEqDiff, Nat.reduceAdd, Nat.reduceMul, Nat.reduceSub, Int.reduceToNat, Nat.reduceBEq, List.size_toArray, List.length_cons, List.length_nil, Bool.false_and, Bool.true_and, Bool.or_false, Bool.false_or, Bool.and_false, Bool.and_true, w6, hw], by simp (disch := first | (simp only [go_sem, Bool.and_self, eq_self]; done) | omega | (simp only [List.length_cons, List.length_nil]; omega)) only [go_sem, ↓reduceIte, Nat.reduceEqDiff, Nat.reduceAdd, Nat.reduceMul, Nat.reduceSub, Int.reduceToNat, Nat.reduceBEq, List.size_toArray, List.length_cons, List.length_nil, Bool.false_and, Bool.true_and, Bool.or_false, Bool.false_or, Bool.and_false, Bool.and_true, bn], by simp (disch := first | (simp only [go_sem, Bool.and_self, eq_self]; done) | omega | (simp only [List.length_cons, List.length_nil]; omega)) only [go_sem, ↓reduceIte, Nat.reduceEqDiff, Nat.reduceAdd, Nat.reduceMul, Nat.reduceSub, Int.reduceToNat, Nat.reduceBEq, List.size_toArray, List.length_cons, List.length_nil, Bool.false_and, Bool.true_and, Bool.or_false, Bool.false_or, Bool.and_false, Bool.and_true, b0]⟩
    · have hz0 : nth v i = 0 := by have := hv.bit i hlt; omega
      have hw : wt p t v i = 16 - nth (nth t i) (caseF (nth p i) v (nth p i).length) := by simp only [wt, hz0, if_true]
      rw [w6, hw] at w3 w4
      simp (disch := first | (simp only [go_sem, Bool.and_self, eq_self]; done) | omega | (simp only [List.length_cons, List.length_nil]; omega)) only [go_sem, ↓reduceIte, Nat.reduceEqDiff, Nat.reduceAdd, Nat.reduceMul, Nat.reduceSub, Int.reduceToNat, Nat.reduceBEq, List.size_toArray, List.length_cons, List.length_nil, Bool.false_and, Bool.true_and, Bool.or_false, Bool.false_or, Bool.and_false, Bool.and_true, s1, s2, s5, s6, s7, bn, b0, hlt, hlt2, hlt3, c2, hz]
      rw [ForK_normal]
      refine ⟨hlt, by simp (disch := first | (simp only [go_sem, Bool.and_self, eq_self]; done) | omega | (simp only [List.length_cons, List.length_nil]; omega)) only [go_sem, ↓reduceIte, Nat.reduceEqDiff, Nat.reduceAdd, Nat.reduceMul, Nat.reduceSub, Int.reduceToNat, Nat.reduceBEq, List.size_toArray, List.length_cons, List.length_nil, Bool.false_and, Bool.true_and, Bool.or_false, Bool.false_or, Bool.and_false, Bool.and_true, s1, s2, s5, s6], by simp (disch := first | (simp only [go_sem, Bool.and_self, eq_self]; done) | omega | (simp only [List.length_cons, List.length_nil]; omega)) only [go_sem, ↓reduceIte, Nat.reduceEqDiff, Nat.reduceAdd, Nat.reduceMul, Nat.reduceSub, Int.reduceToNat, Nat.reduceBEq, List.size_toArray, List.length_cons, List.length_nil, Bool.false_and, Bool.true_and, Bool.or_false, Bool.false_or, Bool.and_false, Bool.and_true, s1, s2, s5, s6], by simp (disch := first | (simp only [go_sem, Bool.and_self, eq_self]; done) | omega | (simp only [List.length_cons, List.length_nil]; omega)) only [go_sem, ↓reduceIte, Nat.reduceEqDiff, Nat.reduceAdd, Nat.reduceMul, Nat.reduceSub, Int.reduceToNat, Nat.reduceBEq, List.size_toArray, List.length_cons, List.length_nil, Bool.false_and, Bool.true_and, Bool.or_false, Bool.false_or, Bool.and_false, Bool.and_true, s1, s2, s5, s6], by simp (disch := first | (simp only [go_sem, Bool.and_self, eq_self]; done) | omega | (simp only [List.length_cons, List.length_nil]; omega)) only [go_sem, ↓reduceIte, Nat.reduceEqDiff, Nat.reduceAdd, Nat.reduceMul, Nat.reduceSub, Int.reduceToNat, Nat.reduceBEq, List.size_toArray, List.length_cons, List.length_nil, Bool.false_and, Bool.true_and, Bool.or_false, Bool.false_or, Bool.and_false, Bool.and_true, w6, hw], by simp (disch := first | (simp only [go_sem, Bool.and_self, eq_self]; done) | omega | (simp only [List.length_cons, List.length_nil]; omega)) only [go_sem, ↓reduceIte, Nat.reduceEqDiff, Nat.reduceAdd, Nat.reduceMul, Nat.reduceSub, Int.reduceToNat, Nat.reduceBEq, List.size_toArray, List.length_cons, List.length_nil, Bool.false_and, Bool.true_and, Bool.or_false, Bool.false_or, Bool.and_false, Bool.and_true, bn], by simp (disch := first | (simp only [go_sem, Bool.and_self, eq_self]; done) | omega | (simp only [List.length_cons, List.length_nil]; omega)) only [go_sem, ↓reduceIte, Nat.reduceEqDiff, Nat.reduceAdd, Nat.reduceMul, Nat.reduceSub, Int.reduceToNat, Nat.reduceBEq, List.size_toArray, List.length_cons, List.length_nil, Bool.false_and, Bool.true_and, Bool.or_false, Bool.false_or, Bool.and_false, Bool.and_true, b0]⟩
theorem k53 (p t : List (List Int)) (N : Net p t) (v : List Int) (hv : Row p v) : ConW Try.prog cfg 53 h (some ([.agg [LLI p, LLI t], LI v], h')) K = K (I (weightB p t v p.length)) h := ConW_num (f53_con p t N v hv) rfl

theorem row_of {p : List (List Int)} {v : List Int} (h : rowOkB p v = true) : Row p v := by
  simp only [rowOkB, Bool.and_eq_true, decide_eq_true_eq, Bool.not_eq_true', List.any_eq_false] at h
  refine ⟨h.1, fun i hi => ?_⟩
  have := h.2 _ (nth_mem (xs := v) (i := i) (by omega))
  simp only [inB, Bool.not_eq_true', Bool.not_eq_eq_eq_not, Bool.not_true, Bool.not_false, decide_eq_false_iff_not, Decidable.not_not, decide_eq_true_eq] at this
  omega
theorem weight_ten {p t : List (List Int)} (N : Net p t) {v : List Int} (h : rowOkB p v = true) : weightB p t (ten v) p.length = weightB p t v p.length :=
  weight_congr N fun k hk => ten_nth (by have := (row_of h).len; omega)

/-- What the reference answers of a network that is one. -/
def refJ (p t : List (List Int)) (v : List Int) : AV := if rowOkB p v then .tup [redu (weightB p t v p.length) (16 ^ p.length), .bool true] else .tup [.agg [I 0, I 0], .bool false]
theorem f21_con (p t : List (List Int)) (N : Net p t) (v : List Int) (hvm : v.length ≤ maxLen) : Con Try.prog cfg 21 [.agg [LLI p, LLI t], LI v] (refJ p t v) := by
  have ml : maxLen = 9223372036854775807 := by decide
  have hn1 := N.n1
  refine Con_intro Try.func21 rfl ok21 (Nat.le_of_ble_eq_true rfl) rfl ?_
  simp only [Try.f21, Option.getD_some, initSt2]
  by_cases h2 : (v.length : Int) = p.length
  case neg =>
    have : refJ p t v = .tup [.agg [I 0, I 0], .bool false] := by simp [refJ, rowOkB, show ¬ v.length = p.length by omega]
    simp (disch := first | (simp only [go_sem, Bool.and_self, eq_self]; done) | omega | (simp only [List.length_cons, List.length_nil]; omega)) only [go_sem, ↓reduceIte, Nat.reduceEqDiff, Nat.reduceAdd, Nat.reduceMul, Nat.reduceSub, Int.reduceToNat, Nat.reduceBEq, List.size_toArray, List.length_cons, List.length_nil, Bool.false_and, Bool.true_and, Bool.or_false, Bool.false_or, Bool.and_false, Bool.and_true, h2, this]
  simp (disch := first | (simp only [go_sem, Bool.and_self, eq_self]; done) | omega | (simp only [List.length_cons, List.length_nil]; omega)) only [go_sem, ↓reduceIte, Nat.reduceEqDiff, Nat.reduceAdd, Nat.reduceMul, Nat.reduceSub, Int.reduceToNat, Nat.reduceBEq, List.size_toArray, List.length_cons, List.length_nil, Bool.false_and, Bool.true_and, Bool.or_false, Bool.false_or, Bool.and_false, Bool.and_true, h2]
  refine WP_for 7 v.length (fun i st h => st 1 = LI v ∧ st 2 = .ptr 0 0 ∧ st 4 = .ptr 1 0 ∧ st 6 = I (16 ^ i) ∧ h.nx = 2 ∧ h.bl 0 = some (.cells false false [LLI p, LLI t]) ∧ h.bl 1 = some (.cells false false [I 0, I 0]) ∧ ∀ j, j < i → inB (nth v j) 0 1 = true) (by simp (disch := first | (simp only [go_sem, Bool.and_self, eq_self]; done) | omega | (simp only [List.length_cons, List.length_nil]; omega)) only [go_sem, ↓reduceIte, Nat.reduceEqDiff, Nat.reduceAdd, Nat.reduceMul, Nat.reduceSub, Int.reduceToNat, Nat.reduceBEq, List.size_toArray, List.length_cons, List.length_nil, Bool.false_and, Bool.true_and, Bool.or_false, Bool.false_or, Bool.and_false, Bool.and_true]) ⟨by simp (disch := first | (simp only [go_sem, Bool.and_self, eq_self]; done) | omega | (simp only [List.length_cons, List.length_nil]; omega)) only [go_sem, ↓reduceIte, Nat.reduceEqDiff, Nat.reduceAdd, Nat.reduceMul, Nat.reduceSub, Int.reduceToNat, Nat.reduceBEq, List.size_toArray, List.length_cons, List.length_nil, Bool.false_and, Bool.true_and, Bool.or_false, Bool.false_or, Bool.and_false, Bool.and_true], by simp (disch := first | (simp only [go_sem, Bool.and_self, eq_self]; done) | omega | (simp only [List.length_cons, List.length_nil]; omega)) only [go_sem, ↓reduceIte, Nat.reduceEqDiff, Nat.reduceAdd, Nat.reduceMul, Nat.reduceSub, Int.reduceToNat, Nat.reduceBEq, List.size_toArray, List.length_cons, List.length_nil, Bool.false_and, Bool.true_and, Bool.or_false, Bool.false_or, Bool.and_false, Bool.and_true], by simp (disch := first | (simp only [go_sem, Bool.and_self, eq_self]; done) | omega | (simp only [List.length_cons, List.length_nil]; omega)) only [go_sem, ↓reduceIte, Nat.reduceEqDiff, Nat.reduceAdd, Nat.reduceMul, Nat.reduceSub, Int.reduceToNat, Nat.reduceBEq, List.size_toArray, List.length_cons, List.length_nil, Bool.false_and, Bool.true_and, Bool.or_false, Bool.false_or, Bool.and_false, Bool.and_true], by simp (disch := first | (simp only [go_sem, Bool.and_self, eq_self]; done) | omega | (simp only [List.length_cons, List.length_nil]; omega)) only [go_sem, ↓reduceIte, Nat.reduceEqDiff, Nat.reduceAdd, Nat.reduceMul, Nat.reduceSub, Int.reduceToNat, Nat.reduceBEq, List.size_toArray, List.length_cons, List.length_nil, Bool.false_and, Bool.true_and, Bool.or_false, Bool.false_or, Bool.and_false, Bool.and_true]; simp, by simp (disch := first | (simp only [go_sem, Bool.and_self, eq_self]; done) | omega | (simp only [List.length_cons, List.length_nil]; omega)) only [go_sem, ↓reduceIte, Nat.reduceEqDiff, Nat.reduceAdd, Nat.reduceMul, Nat.reduceSub, Int.reduceToNat, Nat.reduceBEq, List.size_toArray, List.length_cons, List.length_nil, Bool.false_and, Bool.true_and, Bool.or_false, Bool.false_or, Bool.and_false, Bool.and_true], by simp (disch := first | (simp only [go_sem, Bool.and_self, eq_self]; done) | omega | (simp only [List.length_cons, List.length_nil]; omega)) only [go_sem, ↓reduceIte, Nat.reduceEqDiff, Nat.reduceAdd, Nat.reduceMul, Nat.reduceSub, Int.reduceToNat, Nat.reduceBEq, List.size_toArray, List.length_cons, List.length_nil, Bool.false_and, Bool.true_and, Bool.or_false, Bool.false_or, Bool.and_false, Bool.and_true], by simp (disch := first | (simp only [go_sem, Bool.and_self, eq_self]; done) | omega | (simp only [List.length_cons, List.length_nil]; omega)) only [go_sem, ↓reduceIte, Nat.reduceEqDiff, Nat.reduceAdd, Nat.reduceMul, Nat.reduceSub, Int.reduceToNat, Nat.reduceBEq, List.size_toArray, List.length_cons, List.length_nil, Bool.false_and, Bool.true_and, Bool.or_false, Bool.false_or, Bool.and_false, Bool.and_true], by omega⟩ ?_
  rintro i st h hi s7 ⟨s1, s2, s4, s6, bn, b0, b1, hn⟩
  have w5 := pow16_le (i := i) (n := 10) (by omega) (by omega)
  have w6 := pow16_pos i
  by_cases hlt : i < v.length
  case neg =>
    have hr : rowOkB p v = true := by
      simp only [rowOkB, decide_eq_true (show v.length = p.length by omega), Bool.true_and]
      rw [not_any_nth (f := fun x => !inB x 0 1) (xs := v) fun j hj => by simp only [hn j (by omega)]; rfl]
      rfl
    have hii : (16 : Int) ^ i = 16 ^ p.length := by rw [show i = p.length by omega]
    rw [hii] at s6 w5
    have kw := fun h h' K => k53 (h := h) (h' := h') (K := K) p t N v (row_of hr)
    obtain ⟨w1, w2⟩ := weight_bounds N v (Nat.le_refl _)
    have kr := fun h h' K => k35 (h := h) (h' := h') (K := K) (weightB p t v p.length) (16 ^ p.length) ⟨w1, by omega⟩ ⟨pow16_pos _, by omega⟩
    have : refJ p t v = .tup [redu (weightB p t v p.length) (16 ^ p.length), .bool true] := by simp only [refJ, hr, if_true]
    simp (disch := first | (simp only [go_sem, Bool.and_self, eq_self]; done) | omega | (simp only [List.length_cons, List.length_nil]; omega)) only [go_sem, ↓reduceIte, Nat.reduceEqDiff, Nat.reduceAdd, Nat.reduceMul, Nat.reduceSub, Int.reduceToNat, Nat.reduceBEq, List.size_toArray, List.length_cons, List.length_nil, Bool.false_and, Bool.true_and, Bool.or_false, Bool.false_or, Bool.and_false, Bool.and_true, s1, s2, s4, s6, s7, bn, b0, b1, hlt, kw, kr, this]
  have bad : inB (nth v i) 0 1 = false → refJ p t v = .tup [.agg [I 0, I 0], .bool false] := fun hb => by
    simp only [refJ, rowOkB, any_of_nth hlt (f := fun x => !inB x 0 1) (by simp only [hb]; rfl), Bool.not_true, Bool.and_false, Bool.false_eq_true, if_false]
  by_cases h8 : nth v i < 0
  · have q := bad (by simp only [inB]; exact decide_eq_false (by omega))
    simp (disch := first | (simp only [go_sem, Bool.and_self, eq_self]; done) | omega | (simp only [List.length_cons, List.length_nil]; omega)) only [go_sem, ↓reduceIte, Nat.reduceEqDiff, Nat.reduceAdd, Nat.reduceMul, Nat.reduceSub, Int.reduceToNat, Nat.reduceBEq, List.size_toArray, List.length_cons, List.length_nil, Bool.false_and, Bool.true_and, Bool.or_false, Bool.false_or, Bool.and_false, Bool.and_true, s1, s2, s4, s6, s7, bn, b0, b1, hlt, h8, q]
  by_cases h9 : 1 < nth v i
  · have q := bad (by simp only [inB]; exact decide_eq_false (by omega))
    simp (disch := first | (simp only [go_sem, Bool.and_self, eq_self]; done) | omega | (simp only [List.length_cons, List.length_nil]; omega)) only [go_sem, ↓reduceIte, Nat.reduceEqDiff, Nat.reduceAdd, Nat.reduceMul, Nat.reduceSub, Int.reduceToNat, Nat.reduceBEq, List.size_toArray, List.length_cons, List.length_nil, Bool.false_and, Bool.true_and, Bool.or_false, Bool.false_or, Bool.and_false, Bool.and_true, s1, s2, s4, s6, s7, bn, b0, b1, hlt, h8, h9, q]
  have e3 := pow16_le (i := i + 1) (n := 10) (by omega) (by omega)
  have e4 : (16 : Int) ^ i * 16 = 16 ^ (i + 1) := (Int.pow_succ _ _).symm
  simp (disch := first | (simp only [go_sem, Bool.and_self, eq_self]; done) | omega | (simp only [List.length_cons, List.length_nil]; omega)) only [go_sem, ↓reduceIte, Nat.reduceEqDiff, Nat.reduceAdd, Nat.reduceMul, Nat.reduceSub, Int.reduceToNat, Nat.reduceBEq, List.size_toArray, List.length_cons, List.length_nil, Bool.false_and, Bool.true_and, Bool.or_false, Bool.false_or, Bool.and_false, Bool.and_true, s1, s2, s4, s6, s7, bn, b0, b1, hlt, h8, h9, e4]
  rw [ForK_normal]
  refine ⟨hlt, by simp (disch := first | (simp only [go_sem, Bool.and_self, eq_self]; done) | omega | (simp only [List.length_cons, List.length_nil]; omega)) only [go_sem, ↓reduceIte, Nat.reduceEqDiff, Nat.reduceAdd, Nat.reduceMul, Nat.reduceSub, Int.reduceToNat, Nat.reduceBEq, List.size_toArray, List.length_cons, List.length_nil, Bool.false_and, Bool.true_and, Bool.or_false, Bool.false_or, Bool.and_false, Bool.and_true, s7], by simp (disch := first | (simp only [go_sem, Bool.and_self, eq_self]; done) | omega | (simp only [List.length_cons, List.length_nil]; omega)) only [go_sem, ↓reduceIte, Nat.reduceEqDiff, Nat.reduceAdd, Nat.reduceMul, Nat.reduceSub, Int.reduceToNat, Nat.reduceBEq, List.size_toArray, List.length_cons, List.length_nil, Bool.false_and, Bool.true_and, Bool.or_false, Bool.false_or, Bool.and_false, Bool.and_true, s1], by simp (disch := first | (simp only [go_sem, Bool.and_self, eq_self]; done) | omega | (simp only [List.length_cons, List.length_nil]; omega)) only [go_sem, ↓reduceIte, Nat.reduceEqDiff, Nat.reduceAdd, Nat.reduceMul, Nat.reduceSub, Int.reduceToNat, Nat.reduceBEq, List.size_toArray, List.length_cons, List.length_nil, Bool.false_and, Bool.true_and, Bool.or_false, Bool.false_or, Bool.and_false, Bool.and_true, s2], by simp (disch := first | (simp only [go_sem, Bool.and_self, eq_self]; done) | omega | (simp only [List.length_cons, List.length_nil]; omega)) only [go_sem, ↓reduceIte, Nat.reduceEqDiff, Nat.reduceAdd, Nat.reduceMul, Nat.reduceSub, Int.reduceToNat, Nat.reduceBEq, List.size_toArray, List.length_cons, List.length_nil, Bool.false_and, Bool.true_and, Bool.or_false, Bool.false_or, Bool.and_false, Bool.and_true, s4], by simp (disch := first | (simp only [go_sem, Bool.and_self, eq_self]; done) | omega | (simp only [List.length_cons, List.length_nil]; omega)) only [go_sem, ↓reduceIte, Nat.reduceEqDiff, Nat.reduceAdd, Nat.reduceMul, Nat.reduceSub, Int.reduceToNat, Nat.reduceBEq, List.size_toArray, List.length_cons, List.length_nil, Bool.false_and, Bool.true_and, Bool.or_false, Bool.false_or, Bool.and_false, Bool.and_true], by simp (disch := first | (simp only [go_sem, Bool.and_self, eq_self]; done) | omega | (simp only [List.length_cons, List.length_nil]; omega)) only [go_sem, ↓reduceIte, Nat.reduceEqDiff, Nat.reduceAdd, Nat.reduceMul, Nat.reduceSub, Int.reduceToNat, Nat.reduceBEq, List.size_toArray, List.length_cons, List.length_nil, Bool.false_and, Bool.true_and, Bool.or_false, Bool.false_or, Bool.and_false, Bool.and_true, bn], by simp (disch := first | (simp only [go_sem, Bool.and_self, eq_self]; done) | omega | (simp only [List.length_cons, List.length_nil]; omega)) only [go_sem, ↓reduceIte, Nat.reduceEqDiff, Nat.reduceAdd, Nat.reduceMul, Nat.reduceSub, Int.reduceToNat, Nat.reduceBEq, List.size_toArray, List.length_cons, List.length_nil, Bool.false_and, Bool.true_and, Bool.or_false, Bool.false_or, Bool.and_false, Bool.and_true, b0], by simp (disch := first | (simp only [go_sem, Bool.and_self, eq_self]; done) | omega | (simp only [List.length_cons, List.length_nil]; omega)) only [go_sem, ↓reduceIte, Nat.reduceEqDiff, Nat.reduceAdd, Nat.reduceMul, Nat.reduceSub, Int.reduceToNat, Nat.reduceBEq, List.size_toArray, List.length_cons, List.length_nil, Bool.false_and, Bool.true_and, Bool.or_false, Bool.false_or, Bool.and_false, Bool.and_true, b1], fun j hj => ?_⟩
  rcases Nat.lt_or_ge j i with h | h
  · exact hn j h
  · rw [show j = i by omega]
    simp only [inB, decide_eq_true_eq]; omega
end Go.Proofs.Ytpkakapbepkfdaa

set_option linter.unusedVariables false
set_option linter.unusedSimpArgs false
set_option maxRecDepth 10000
namespace Go.Proofs.Ytpkakapbepkfdaa
open Go Go.Am

variable {h h' : Hp} {K : AV → Hp → Prop}

def listM (v : List Int) : List Int := v.take (min v.length 20)
theorem f17_con (v : List Int) (hv : v.length ≤ maxLen) : Con Try.prog cfg 17 [LI v] (LI (listM v)) := by
  have ml : maxLen = 9223372036854775807 := by decide
  have hmin : min (v.length : Int) 20 = ((min v.length 20 : Nat) : Int) := by omega
  have htl : (listM v).length = min v.length 20 := by rw [listM, List.length_take]; omega
  have hrow : v.take (min v.length 20) = listM v := rfl
  refine Con_intro Try.func17 rfl ok17 (Nat.le_of_ble_eq_true rfl) rfl ?_
  simp only [Try.f17, Option.getD_some, initSt1]
  have happ1 := fun h => app_nil (P := Try.prog) (h := h) (f := e1 I) 3 8 (I 0) (LI (listM v)) (listM v) isz3 ibytes3 izero3 rfl (cellsOf_L _ _) (lenA_L _ _) (by omega) (by omega)
  simp (disch := first | (simp only [go_sem, Bool.and_self, eq_self]; done) | omega | (simp only [List.length_cons, List.length_nil]; omega)) only [go_sem, ↓reduceIte, Nat.reduceEqDiff, Nat.reduceAdd, Nat.reduceMul, Nat.reduceSub, Int.reduceToNat, Nat.reduceBEq, List.size_toArray, List.length_cons, List.length_nil, Bool.false_and, Bool.true_and, Bool.or_false, Bool.false_or, Bool.and_false, Bool.and_true, hmin, hrow, happ1]
  exact export_Own (f := e1 I) 25 (.inr ⟨0, rfl, Nat.zero_lt_one, rfl⟩)
theorem k17 (v : List Int) (hv : v.length ≤ maxLen) : ConW Try.prog cfg 17 h (some ([LI v], h')) K = K (LI (listM v)) h' := by
  rw [ConW_any (f17_con v hv) rfl]; rfl

def tableRow (a : List (List Int)) (i : Nat) : List Int := listM (nth a i)
def tableM (a : List (List Int)) : List (List Int) := (List.range (min a.length 12)).map (tableRow a)
/-- A network on its way between functions: without any variable its lists are nil. -/
def netV (p t : List (List Int)) : AV := if p = [] ∧ t = [] then .agg [.nil, .nil] else .agg [LLI p, LLI t]

theorem own_cell {α : Type} {f : α → List AV} {sz : Nat} {v : AV} {xs : List α} (o : Own f sz h v xs) : v.isCell = true := by
  rcases o with ⟨rfl, _⟩ | ⟨id, rfl, _⟩ <;> rfl
theorem own_ne {α : Type} {f : α → List AV} {sz : Nat} {v : AV} {xs : List α} (o : Own f sz h v xs) {i : Nat} {fz : Bool} {flat : List AV} (hb : h.bl i = some (.cells fz false flat)) : ∀ id off n sz', v = .sl id off n sz' → i ≠ id := by
  intro id off n sz' e he
  rcases o with ⟨rfl, _⟩ | ⟨id', rfl, _, hc⟩
  · cases e
  · cases e; subst he; rw [hb] at hc; cases hc
theorem own_put {α : Type} {f : α → List AV} {sz : Nat} {v : AV} {xs : List α} (o : Own f sz h v xs) {i : Nat} {fz : Bool} {flat : List AV} (hb : h.bl i = some (.cells fz false flat)) (b : Option Blk) : Own f sz (h.put i b) v xs := by
  have hne := own_ne o hb
  rcases o with o | ⟨id, e, hi, hc⟩
  · exact .inl o
  · refine .inr ⟨id, e, hi, ?_⟩
    rw [put_bl, if_neg (fun h => hne _ _ _ _ e h.symm)]; exact hc

theorem export_net (t : TypeId) {v w : AV} {xs ys : List (List Int)} (o : Own (e1 LI) 1 h v xs) (q : Own (e1 LI) 1 h w ys) (d : Dis v w) (vn : xs = [] → v = .nil) (wn : ys = [] → w = .nil) : exportR Try.prog false false [t] h (.agg [v, w]) = some (netV xs ys) := by
  have hv : exportR Try.prog false false [t] h (.agg [v, w]) = (sealA h (.agg [v, w])).bind fun r => if isTup r.1 then none else some r.1 := by
    show (exportV Try.prog false false t h [] (.agg [v, w])).bind _ = _
    rw [exportV_plain]
    cases sealA h (.agg [v, w]) <;> rfl
  rw [hv]
  by_cases hx : xs = [] ∧ ys = []
  · obtain ⟨rfl, rfl⟩ := hx
    rw [vn rfl, wn rfl]
    rfl
  obtain ⟨g1, r1, n1, b1⟩ := sealA_Own o
  have q1 : Own (e1 LI) 1 g1 w ys := by
    rcases q with q | ⟨id, e, hi, hc⟩
    · exact .inl q
    · refine .inr ⟨id, e, by omega, ?_⟩
      rw [b1 id fun id' off n sz' e' => (d _ _ _ _ _ _ _ _ e' e).symm]; exact hc
  obtain ⟨g2, r2, _, _⟩ := sealA_Own q1
  have s1 : sealV h v = some (LLI xs, g1) := by rcases o with ⟨rfl, rfl⟩ | ⟨id, rfl, _⟩ <;> exact r1
  have s2 : sealV g1 w = some (LLI ys, g2) := by rcases q with ⟨rfl, rfl⟩ | ⟨id, rfl, _⟩ <;> exact r2
  have sc : sealCells h [v, w] = some ([LLI xs, LLI ys], g2) := by simp only [sealCells, s1, s2, Option.bind_some, Option.map_some]
  have hp : (AV.agg [v, w]).isPure = false := by
    rcases o with ⟨rfl, hxs⟩ | ⟨id, rfl, _⟩
    · rcases q with ⟨rfl, hys⟩ | ⟨id, rfl, _⟩
      · exact absurd ⟨hxs, hys⟩ hx
      · rfl
    · rfl
  have : sealA h (.agg [v, w]) = some (.agg [LLI xs, LLI ys], g2) := by
    simp only [sealA, hp, sc, Option.map_some]
    rfl
  rw [this, netV, if_neg hx]
  rfl

theorem rows_len (a : List (List Int)) (i : Nat) : ((List.range i).map (tableRow a)).length = i := by simp
/-- One row more, whatever holds the rows. -/
structure App (h : Hp) (v : AV) (a : List (List Int)) (i : Nat) : Prop where
  own : Own (e1 LI) 1 h v ((List.range i).map (tableRow a))
  nil : i = 0 → v = .nil
theorem App.isNil {v : AV} {a : List (List Int)} {i : Nat} (p : App h v a i) : (List.range i).map (tableRow a) = [] → v = .nil := fun e => p.nil (by
  have := congrArg List.length e
  simpa using this)
theorem App.step {v : AV} {a : List (List Int)} {i : Nat} (p : App h v a i) (hi : i < 12) : appB Try.prog h (some (.slice 25)) true v (.lst [[LI (tableRow a i)]]) =
    some (appV h ((List.range (i + 1)).map (tableRow a)).length 1, appH h v (((List.range (i + 1)).map (tableRow a)).flatMap (e1 LI))) := by
  have := app_one (P := Try.prog) p.own 25 24 .nil (tableRow a i) isz25 ibytes25 izero25 rfl (by simp; omega) (by simp; omega)
  rw [← rows_snoc]
  exact this
theorem App.next (h : Hp) (v : AV) (a : List (List Int)) (i : Nat) : App (appH h v (((List.range (i + 1)).map (tableRow a)).flatMap (e1 LI))) (appV h ((List.range (i + 1)).map (tableRow a)).length 1) a (i + 1) :=
  ⟨Own.app _ _ _, fun h => by omega⟩

theorem store_fst {v x y : AV} {id : Nat} (hv : v.isCell = true) : storeC h id 0 1 (some (.cells false false [x, y])) v.cells = some (.skp, h.put id (some (.cells false false [v, y]))) := by
  have hcs : v.cells = [v] := by cases v <;> first | rfl | (simp [AV.isCell] at hv)
  rw [hcs]; simp [storeC, hv, setL]
theorem store_snd {v x y : AV} {id : Nat} (hv : v.isCell = true) : storeC h id 1 1 (some (.cells false false [x, y])) v.cells = some (.skp, h.put id (some (.cells false false [x, v]))) := by
  have hcs : v.cells = [v] := by cases v <;> first | rfl | (simp [AV.isCell] at hv)
  rw [hcs]; simp [storeC, hv, setL]

theorem f16_con (p t : List (List Int)) (hp : okLL p) (ht : okLL t) : Con Try.prog cfg 16 [.agg [LLI p, LLI t]] (netV (tableM p) (tableM t)) := by
  have ml : maxLen = 9223372036854775807 := by decide
  have hpl := hp.1
  have htl := ht.1
  refine Con_intro Try.func16 rfl ok16 (Nat.le_of_ble_eq_true rfl) rfl ?_
  simp only [Try.f16, Option.getD_some, initSt1]
  simp (disch := first | (simp only [go_sem, Bool.and_self, eq_self]; done) | omega | (simp only [List.length_cons, List.length_nil]; omega)) only [go_sem, ↓reduceIte, Nat.reduceEqDiff, Nat.reduceAdd, Nat.reduceMul, Nat.reduceSub, Int.reduceToNat, Nat.reduceBEq, List.size_toArray, List.length_cons, List.length_nil, Bool.false_and, Bool.true_and, Bool.or_false, Bool.false_or, Bool.and_false, Bool.and_true]
  refine WP_cut (fun st h => st 1 = .ptr 0 0 ∧ st 2 = .ptr 1 0 ∧ st 3 = .ptr 2 0 ∧ 3 ≤ h.nx ∧ h.bl 0 = some (.cells false false [LLI p, LLI t]) ∧ h.bl 1 = some (.cells false false [.nil, .nil]) ∧ ∃ v, h.bl 2 = some (.cells false false [v, .nil]) ∧ App h v p (min p.length 12)) ?_ ?_
  · refine WP_for 4 (min p.length 12) (fun i st h => st 1 = .ptr 0 0 ∧ st 2 = .ptr 1 0 ∧ st 3 = .ptr 2 0 ∧ 3 ≤ h.nx ∧ h.bl 0 = some (.cells false false [LLI p, LLI t]) ∧ h.bl 1 = some (.cells false false [.nil, .nil]) ∧ ∃ v, h.bl 2 = some (.cells false false [v, .nil]) ∧ App h v p i) (by simp (disch := first | (simp only [go_sem, Bool.and_self, eq_self]; done) | omega | (simp only [List.length_cons, List.length_nil]; omega)) only [go_sem, ↓reduceIte, Nat.reduceEqDiff, Nat.reduceAdd, Nat.reduceMul, Nat.reduceSub, Int.reduceToNat, Nat.reduceBEq, List.size_toArray, List.length_cons, List.length_nil, Bool.false_and, Bool.true_and, Bool.or_false, Bool.false_or, Bool.and_false, Bool.and_true]) ⟨by simp (disch := first | (simp only [go_sem, Bool.and_self, eq_self]; done) | omega | (simp only [List.length_cons, List.length_nil]; omega)) only [go_sem, ↓reduceIte, Nat.reduceEqDiff, Nat.reduceAdd, Nat.reduceMul, Nat.reduceSub, Int.reduceToNat, Nat.reduceBEq, List.size_toArray, List.length_cons, List.length_nil, Bool.false_and, Bool.true_and, Bool.or_false, Bool.false_or, Bool.and_false, Bool.and_true], by simp (disch := first | (simp only [go_sem, Bool.and_self, eq_self]; done) | omega | (simp only [List.length_cons, List.length_nil]; omega)) only [go_sem, ↓reduceIte, Nat.reduceEqDiff, Nat.reduceAdd, Nat.reduceMul, Nat.reduceSub, Int.reduceToNat, Nat.reduceBEq, List.size_toArray, List.length_cons, List.length_nil, Bool.false_and, Bool.true_and, Bool.or_false, Bool.false_or, Bool.and_false, Bool.and_true], by simp (disch := first | (simp only [go_sem, Bool.and_self, eq_self]; done) | omega | (simp only [List.length_cons, List.length_nil]; omega)) only [go_sem, ↓reduceIte, Nat.reduceEqDiff, Nat.reduceAdd, Nat.reduceMul, Nat.reduceSub, Int.reduceToNat, Nat.reduceBEq, List.size_toArray, List.length_cons, List.length_nil, Bool.false_and, Bool.true_and, Bool.or_false, Bool.false_or, Bool.and_false, Bool.and_true], by simp (disch := first | (simp only [go_sem, Bool.and_self, eq_self]; done) | omega | (simp only [List.length_cons, List.length_nil]; omega)) only [go_sem, ↓reduceIte, Nat.reduceEqDiff, Nat.reduceAdd, Nat.reduceMul, Nat.reduceSub, Int.reduceToNat, Nat.reduceBEq, List.size_toArray, List.length_cons, List.length_nil, Bool.false_and, Bool.true_and, Bool.or_false, Bool.false_or, Bool.and_false, Bool.and_true]; decide, by simp (disch := first | (simp only [go_sem, Bool.and_self, eq_self]; done) | omega | (simp only [List.length_cons, List.length_nil]; omega)) only [go_sem, ↓reduceIte, Nat.reduceEqDiff, Nat.reduceAdd, Nat.reduceMul, Nat.reduceSub, Int.reduceToNat, Nat.reduceBEq, List.size_toArray, List.length_cons, List.length_nil, Bool.false_and, Bool.true_and, Bool.or_false, Bool.false_or, Bool.and_false, Bool.and_true], by simp (disch := first | (simp only [go_sem, Bool.and_self, eq_self]; done) | omega | (simp only [List.length_cons, List.length_nil]; omega)) only [go_sem, ↓reduceIte, Nat.reduceEqDiff, Nat.reduceAdd, Nat.reduceMul, Nat.reduceSub, Int.reduceToNat, Nat.reduceBEq, List.size_toArray, List.length_cons, List.length_nil, Bool.false_and, Bool.true_and, Bool.or_false, Bool.false_or, Bool.and_false, Bool.and_true], .nil, by simp (disch := first | (simp only [go_sem, Bool.and_self, eq_self]; done) | omega | (simp only [List.length_cons, List.length_nil]; omega)) only [go_sem, ↓reduceIte, Nat.reduceEqDiff, Nat.reduceAdd, Nat.reduceMul, Nat.reduceSub, Int.reduceToNat, Nat.reduceBEq, List.size_toArray, List.length_cons, List.length_nil, Bool.false_and, Bool.true_and, Bool.or_false, Bool.false_or, Bool.and_false, Bool.and_true], .inl ⟨rfl, rfl⟩, fun _ => rfl⟩ ?_
    rintro i st h hi s4 ⟨s1, s2, s3, bn, b0, b1, v, b2, ap⟩
    by_cases hlt : i < p.length
    case neg =>
      have hii : min p.length 12 = i := by omega
      simp (disch := first | (simp only [go_sem, Bool.and_self, eq_self]; done) | omega | (simp only [List.length_cons, List.length_nil]; omega)) only [go_sem, ↓reduceIte, Nat.reduceEqDiff, Nat.reduceAdd, Nat.reduceMul, Nat.reduceSub, Int.reduceToNat, Nat.reduceBEq, List.size_toArray, List.length_cons, List.length_nil, Bool.false_and, Bool.true_and, Bool.or_false, Bool.false_or, Bool.and_false, Bool.and_true, s1, s2, s3, s4, b0, hlt]
      exact ⟨bn, b1, v, b2, hii ▸ ap⟩
    by_cases h12 : (i : Int) < 12
    case neg =>
      have hii : min p.length 12 = i := by omega
      simp (disch := first | (simp only [go_sem, Bool.and_self, eq_self]; done) | omega | (simp only [List.length_cons, List.length_nil]; omega)) only [go_sem, ↓reduceIte, Nat.reduceEqDiff, Nat.reduceAdd, Nat.reduceMul, Nat.reduceSub, Int.reduceToNat, Nat.reduceBEq, List.size_toArray, List.length_cons, List.length_nil, Bool.false_and, Bool.true_and, Bool.or_false, Bool.false_or, Bool.and_false, Bool.and_true, s1, s2, s3, s4, b0, hlt, h12]
      exact ⟨bn, b1, v, b2, hii ▸ ap⟩
    have kl := fun h h' K => k17 (h := h) (h' := h') (K := K) (nth p i) (hp.2 _ (nth_mem hlt))
    have hrow : listM (nth p i) = tableRow p i := rfl
    have hse : sealA h (LI (tableRow p i)) = some (LI (tableRow p i), h) := by simp (disch := first | (simp only [go_sem, Bool.and_self, eq_self]; done) | omega | (simp only [List.length_cons, List.length_nil]; omega)) only [go_sem, ↓reduceIte, Nat.reduceEqDiff, Nat.reduceAdd, Nat.reduceMul, Nat.reduceSub, Int.reduceToNat, Nat.reduceBEq, List.size_toArray, List.length_cons, List.length_nil, Bool.false_and, Bool.true_and, Bool.or_false, Bool.false_or, Bool.and_false, Bool.and_true]
    have hbs := bsB_one (P := Try.prog) 25 (LI (tableRow p i)) (LI (tableRow p i)) .nil h isz25 izero25 rfl rfl rfl hse rfl rfl (pure_L _)
    have happ := ap.step (by omega)
    have nx := App.next h v p i
    have c0 := (appH_bl h v (((List.range (i + 1)).map (tableRow p)).flatMap (e1 LI)) 0 (by omega) (own_ne ap.own b0)).trans b0
    have c1 := (appH_bl h v (((List.range (i + 1)).map (tableRow p)).flatMap (e1 LI)) 1 (by omega) (own_ne ap.own b1)).trans b1
    have c2 := (appH_bl h v (((List.range (i + 1)).map (tableRow p)).flatMap (e1 LI)) 2 (by omega) (own_ne ap.own b2)).trans b2
    have cn := appH_nx h v (((List.range (i + 1)).map (tableRow p)).flatMap (e1 LI))
    generalize appH h v (((List.range (i + 1)).map (tableRow p)).flatMap (e1 LI)) = G at happ nx c0 c1 c2 cn
    generalize appV h ((List.range (i + 1)).map (tableRow p)).length 1 = V at happ nx
    have hV := own_cell nx.own
    have hst : storeC G 2 0 1 (some (.cells false false [v, .nil])) V.cells = some (.skp, G.put 2 (some (.cells false false [V, .nil]))) := store_fst hV
    simp (disch := first | (simp only [go_sem, Bool.and_self, eq_self]; done) | omega | (simp only [List.length_cons, List.length_nil]; omega)) only [go_sem, ↓reduceIte, Nat.reduceEqDiff, Nat.reduceAdd, Nat.reduceMul, Nat.reduceSub, Int.reduceToNat, Nat.reduceBEq, List.size_toArray, List.length_cons, List.length_nil, Bool.false_and, Bool.true_and, Bool.or_false, Bool.false_or, Bool.and_false, Bool.and_true, s1, s2, s3, s4, b0, b1, b2, hlt, h12, kl, hrow, hbs, happ, c0, c1, c2, hst]
    rw [ForK_normal]
    refine ⟨by omega, by simp (disch := first | (simp only [go_sem, Bool.and_self, eq_self]; done) | omega | (simp only [List.length_cons, List.length_nil]; omega)) only [go_sem, ↓reduceIte, Nat.reduceEqDiff, Nat.reduceAdd, Nat.reduceMul, Nat.reduceSub, Int.reduceToNat, Nat.reduceBEq, List.size_toArray, List.length_cons, List.length_nil, Bool.false_and, Bool.true_and, Bool.or_false, Bool.false_or, Bool.and_false, Bool.and_true, s4], by simp (disch := first | (simp only [go_sem, Bool.and_self, eq_self]; done) | omega | (simp only [List.length_cons, List.length_nil]; omega)) only [go_sem, ↓reduceIte, Nat.reduceEqDiff, Nat.reduceAdd, Nat.reduceMul, Nat.reduceSub, Int.reduceToNat, Nat.reduceBEq, List.size_toArray, List.length_cons, List.length_nil, Bool.false_and, Bool.true_and, Bool.or_false, Bool.false_or, Bool.and_false, Bool.and_true, s1], by simp (disch := first | (simp only [go_sem, Bool.and_self, eq_self]; done) | omega | (simp only [List.length_cons, List.length_nil]; omega)) only [go_sem, ↓reduceIte, Nat.reduceEqDiff, Nat.reduceAdd, Nat.reduceMul, Nat.reduceSub, Int.reduceToNat, Nat.reduceBEq, List.size_toArray, List.length_cons, List.length_nil, Bool.false_and, Bool.true_and, Bool.or_false, Bool.false_or, Bool.and_false, Bool.and_true, s2], by simp (disch := first | (simp only [go_sem, Bool.and_self, eq_self]; done) | omega | (simp only [List.length_cons, List.length_nil]; omega)) only [go_sem, ↓reduceIte, Nat.reduceEqDiff, Nat.reduceAdd, Nat.reduceMul, Nat.reduceSub, Int.reduceToNat, Nat.reduceBEq, List.size_toArray, List.length_cons, List.length_nil, Bool.false_and, Bool.true_and, Bool.or_false, Bool.false_or, Bool.and_false, Bool.and_true, s3], ?_, by simp (disch := first | (simp only [go_sem, Bool.and_self, eq_self]; done) | omega | (simp only [List.length_cons, List.length_nil]; omega)) only [go_sem, ↓reduceIte, Nat.reduceEqDiff, Nat.reduceAdd, Nat.reduceMul, Nat.reduceSub, Int.reduceToNat, Nat.reduceBEq, List.size_toArray, List.length_cons, List.length_nil, Bool.false_and, Bool.true_and, Bool.or_false, Bool.false_or, Bool.and_false, Bool.and_true, c0], by simp (disch := first | (simp only [go_sem, Bool.and_self, eq_self]; done) | omega | (simp only [List.length_cons, List.length_nil]; omega)) only [go_sem, ↓reduceIte, Nat.reduceEqDiff, Nat.reduceAdd, Nat.reduceMul, Nat.reduceSub, Int.reduceToNat, Nat.reduceBEq, List.size_toArray, List.length_cons, List.length_nil, Bool.false_and, Bool.true_and, Bool.or_false, Bool.false_or, Bool.and_false, Bool.and_true, c1], V, by simp (disch := first | (simp only [go_sem, Bool.and_self, eq_self]; done) | omega | (simp only [List.length_cons, List.length_nil]; omega)) only [go_sem, ↓reduceIte, Nat.reduceEqDiff, Nat.reduceAdd, Nat.reduceMul, Nat.reduceSub, Int.reduceToNat, Nat.reduceBEq, List.size_toArray, List.length_cons, List.length_nil, Bool.false_and, Bool.true_and, Bool.or_false, Bool.false_or, Bool.and_false, Bool.and_true], own_put nx.own c2 _, fun h => by omega⟩
    rw [put_nx, cn]; omega
  rintro st h ⟨s1, s2, s3, bn, b0, b1, v, b2, ap⟩
  simp (disch := first | (simp only [go_sem, Bool.and_self, eq_self]; done) | omega | (simp only [List.length_cons, List.length_nil]; omega)) only [go_sem, ↓reduceIte, Nat.reduceEqDiff, Nat.reduceAdd, Nat.reduceMul, Nat.reduceSub, Int.reduceToNat, Nat.reduceBEq, List.size_toArray, List.length_cons, List.length_nil, Bool.false_and, Bool.true_and, Bool.or_false, Bool.false_or, Bool.and_false, Bool.and_true, s1, s2, s3]
  refine WP_cut (fun st h => st 1 = .ptr 0 0 ∧ st 2 = .ptr 1 0 ∧ st 3 = .ptr 2 0 ∧ 3 ≤ h.nx ∧ h.bl 0 = some (.cells false false [LLI p, LLI t]) ∧ h.bl 1 = some (.cells false false [.nil, .nil]) ∧ ∃ v w, h.bl 2 = some (.cells false false [v, w]) ∧ App h v p (min p.length 12) ∧ App h w t (min t.length 12) ∧ Dis v w) ?_ ?_
  · refine WP_for 6 (min t.length 12) (fun i st h => st 1 = .ptr 0 0 ∧ st 2 = .ptr 1 0 ∧ st 3 = .ptr 2 0 ∧ 3 ≤ h.nx ∧ h.bl 0 = some (.cells false false [LLI p, LLI t]) ∧ h.bl 1 = some (.cells false false [.nil, .nil]) ∧ ∃ v w, h.bl 2 = some (.cells false false [v, w]) ∧ App h v p (min p.length 12) ∧ App h w t i ∧ Dis v w) (by simp (disch := first | (simp only [go_sem, Bool.and_self, eq_self]; done) | omega | (simp only [List.length_cons, List.length_nil]; omega)) only [go_sem, ↓reduceIte, Nat.reduceEqDiff, Nat.reduceAdd, Nat.reduceMul, Nat.reduceSub, Int.reduceToNat, Nat.reduceBEq, List.size_toArray, List.length_cons, List.length_nil, Bool.false_and, Bool.true_and, Bool.or_false, Bool.false_or, Bool.and_false, Bool.and_true]) ⟨by simp (disch := first | (simp only [go_sem, Bool.and_self, eq_self]; done) | omega | (simp only [List.length_cons, List.length_nil]; omega)) only [go_sem, ↓reduceIte, Nat.reduceEqDiff, Nat.reduceAdd, Nat.reduceMul, Nat.reduceSub, Int.reduceToNat, Nat.reduceBEq, List.size_toArray, List.length_cons, List.length_nil, Bool.false_and, Bool.true_and, Bool.or_false, Bool.false_or, Bool.and_false, Bool.and_true, s1], by simp (disch := first | (simp only [go_sem, Bool.and_self, eq_self]; done) | omega | (simp only [List.length_cons, List.length_nil]; omega)) only [go_sem, ↓reduceIte, Nat.reduceEqDiff, Nat.reduceAdd, Nat.reduceMul, Nat.reduceSub, Int.reduceToNat, Nat.reduceBEq, List.size_toArray, List.length_cons, List.length_nil, Bool.false_and, Bool.true_and, Bool.or_false, Bool.false_or, Bool.and_false, Bool.and_true, s2], by simp (disch := first | (simp only [go_sem, Bool.and_self, eq_self]; done) | omega | (simp only [List.length_cons, List.length_nil]; omega)) only [go_sem, ↓reduceIte, Nat.reduceEqDiff, Nat.reduceAdd, Nat.reduceMul, Nat.reduceSub, Int.reduceToNat, Nat.reduceBEq, List.size_toArray, List.length_cons, List.length_nil, Bool.false_and, Bool.true_and, Bool.or_false, Bool.false_or, Bool.and_false, Bool.and_true, s3], bn, by simp (disch := first | (simp only [go_sem, Bool.and_self, eq_self]; done) | omega | (simp only [List.length_cons, List.length_nil]; omega)) only [go_sem, ↓reduceIte, Nat.reduceEqDiff, Nat.reduceAdd, Nat.reduceMul, Nat.reduceSub, Int.reduceToNat, Nat.reduceBEq, List.size_toArray, List.length_cons, List.length_nil, Bool.false_and, Bool.true_and, Bool.or_false, Bool.false_or, Bool.and_false, Bool.and_true, b0], by simp (disch := first | (simp only [go_sem, Bool.and_self, eq_self]; done) | omega | (simp only [List.length_cons, List.length_nil]; omega)) only [go_sem, ↓reduceIte, Nat.reduceEqDiff, Nat.reduceAdd, Nat.reduceMul, Nat.reduceSub, Int.reduceToNat, Nat.reduceBEq, List.size_toArray, List.length_cons, List.length_nil, Bool.false_and, Bool.true_and, Bool.or_false, Bool.false_or, Bool.and_false, Bool.and_true, b1], v, .nil, by simp (disch := first | (simp only [go_sem, Bool.and_self, eq_self]; done) | omega | (simp only [List.length_cons, List.length_nil]; omega)) only [go_sem, ↓reduceIte, Nat.reduceEqDiff, Nat.reduceAdd, Nat.reduceMul, Nat.reduceSub, Int.reduceToNat, Nat.reduceBEq, List.size_toArray, List.length_cons, List.length_nil, Bool.false_and, Bool.true_and, Bool.or_false, Bool.false_or, Bool.and_false, Bool.and_true, b2], ap, ⟨.inl ⟨rfl, rfl⟩, fun _ => rfl⟩, Dis.nil_r _⟩ ?_
    rintro i st h hi s6 ⟨s1, s2, s3, bn, b0, b1, v, w, b2, ap, aw, d⟩
    by_cases hlt : i < t.length
    case neg =>
      have hii : min t.length 12 = i := by omega
      simp (disch := first | (simp only [go_sem, Bool.and_self, eq_self]; done) | omega | (simp only [List.length_cons, List.length_nil]; omega)) only [go_sem, ↓reduceIte, Nat.reduceEqDiff, Nat.reduceAdd, Nat.reduceMul, Nat.reduceSub, Int.reduceToNat, Nat.reduceBEq, List.size_toArray, List.length_cons, List.length_nil, Bool.false_and, Bool.true_and, Bool.or_false, Bool.false_or, Bool.and_false, Bool.and_true, s1, s2, s3, s6, b0, hlt]
      exact ⟨bn, b1, v, w, b2, ap, hii ▸ aw, d⟩
    by_cases h12 : (i : Int) < 12
    case neg =>
      have hii : min t.length 12 = i := by omega
      simp (disch := first | (simp only [go_sem, Bool.and_self, eq_self]; done) | omega | (simp only [List.length_cons, List.length_nil]; omega)) only [go_sem, ↓reduceIte, Nat.reduceEqDiff, Nat.reduceAdd, Nat.reduceMul, Nat.reduceSub, Int.reduceToNat, Nat.reduceBEq, List.size_toArray, List.length_cons, List.length_nil, Bool.false_and, Bool.true_and, Bool.or_false, Bool.false_or, Bool.and_false, Bool.and_true, s1, s2, s3, s6, b0, hlt, h12]
      exact ⟨bn, b1, v, w, b2, ap, hii ▸ aw, d⟩
    have kl := fun h h' K => k17 (h := h) (h' := h') (K := K) (nth t i) (ht.2 _ (nth_mem hlt))
    have hrow : listM (nth t i) = tableRow t i := rfl
    have hse : sealA h (LI (tableRow t i)) = some (LI (tableRow t i), h) := by simp (disch := first | (simp only [go_sem, Bool.and_self, eq_self]; done) | omega | (simp only [List.length_cons, List.length_nil]; omega)) only [go_sem, ↓reduceIte, Nat.reduceEqDiff, Nat.reduceAdd, Nat.reduceMul, Nat.reduceSub, Int.reduceToNat, Nat.reduceBEq, List.size_toArray, List.length_cons, List.length_nil, Bool.false_and, Bool.true_and, Bool.or_false, Bool.false_or, Bool.and_false, Bool.and_true]
    have hbs := bsB_one (P := Try.prog) 25 (LI (tableRow t i)) (LI (tableRow t i)) .nil h isz25 izero25 rfl rfl rfl hse rfl rfl (pure_L _)
    have happ := aw.step (by omega)
    have nx := App.next h w t i
    have kp : Own (e1 LI) 1 (appH h w (((List.range (i + 1)).map (tableRow t)).flatMap (e1 LI))) v _ := Own.keep ap.own d.symm _
    have dd := (Own.dis (sz := 1) ap.own ((List.range (i + 1)).map (tableRow t)).length 1).symm
    have c0 := (appH_bl h w (((List.range (i + 1)).map (tableRow t)).flatMap (e1 LI)) 0 (by omega) (own_ne aw.own b0)).trans b0
    have c1 := (appH_bl h w (((List.range (i + 1)).map (tableRow t)).flatMap (e1 LI)) 1 (by omega) (own_ne aw.own b1)).trans b1
    have c2 := (appH_bl h w (((List.range (i + 1)).map (tableRow t)).flatMap (e1 LI)) 2 (by omega) (own_ne aw.own b2)).trans b2
    have cn := appH_nx h w (((List.range (i + 1)).map (tableRow t)).flatMap (e1 LI))
    generalize appH h w (((List.range (i + 1)).map (tableRow t)).flatMap (e1 LI)) = G at happ nx c0 c1 c2 cn kp
    generalize appV h ((List.range (i + 1)).map (tableRow t)).length 1 = V at happ nx dd
    have hV := own_cell nx.own
    have hst : storeC G 2 1 1 (some (.cells false false [v, w])) V.cells = some (.skp, G.put 2 (some (.cells false false [v, V]))) := store_snd hV
    simp (disch := first | (simp only [go_sem, Bool.and_self, eq_self]; done) | omega | (simp only [List.length_cons, List.length_nil]; omega)) only [go_sem, ↓reduceIte, Nat.reduceEqDiff, Nat.reduceAdd, Nat.reduceMul, Nat.reduceSub, Int.reduceToNat, Nat.reduceBEq, List.size_toArray, List.length_cons, List.length_nil, Bool.false_and, Bool.true_and, Bool.or_false, Bool.false_or, Bool.and_false, Bool.and_true, s1, s2, s3, s6, b0, b1, b2, hlt, h12, kl, hrow, hbs, happ, c0, c1, c2, hst]
    rw [ForK_normal]
    refine ⟨by omega, by simp (disch := first | (simp only [go_sem, Bool.and_self, eq_self]; done) | omega | (simp only [List.length_cons, List.length_nil]; omega)) only [go_sem, ↓reduceIte, Nat.reduceEqDiff, Nat.reduceAdd, Nat.reduceMul, Nat.reduceSub, Int.reduceToNat, Nat.reduceBEq, List.size_toArray, List.length_cons, List.length_nil, Bool.false_and, Bool.true_and, Bool.or_false, Bool.false_or, Bool.and_false, Bool.and_true, s6], by simp (disch := first | (simp only [go_sem, Bool.and_self, eq_self]; done) | omega | (simp only [List.length_cons, List.length_nil]; omega)) only [go_sem, ↓reduceIte, Nat.reduceEqDiff, Nat.reduceAdd, Nat.reduceMul, Nat.reduceSub, Int.reduceToNat, Nat.reduceBEq, List.size_toArray, List.length_cons, List.length_nil, Bool.false_and, Bool.true_and, Bool.or_false, Bool.false_or, Bool.and_false, Bool.and_true, s1], by simp (disch := first | (simp only [go_sem, Bool.and_self, eq_self]; done) | omega | (simp only [List.length_cons, List.length_nil]; omega)) only [go_sem, ↓reduceIte, Nat.reduceEqDiff, Nat.reduceAdd, Nat.reduceMul, Nat.reduceSub, Int.reduceToNat, Nat.reduceBEq, List.size_toArray, List.length_cons, List.length_nil, Bool.false_and, Bool.true_and, Bool.or_false, Bool.false_or, Bool.and_false, Bool.and_true, s2], by simp (disch := first | (simp only [go_sem, Bool.and_self, eq_self]; done) | omega | (simp only [List.length_cons, List.length_nil]; omega)) only [go_sem, ↓reduceIte, Nat.reduceEqDiff, Nat.reduceAdd, Nat.reduceMul, Nat.reduceSub, Int.reduceToNat, Nat.reduceBEq, List.size_toArray, List.length_cons, List.length_nil, Bool.false_and, Bool.true_and, Bool.or_false, Bool.false_or, Bool.and_false, Bool.and_true, s3], ?_, by simp (disch := first | (simp only [go_sem, Bool.and_self, eq_self]; done) | omega | (simp only [List.length_cons, List.length_nil]; omega)) only [go_sem, ↓reduceIte, Nat.reduceEqDiff, Nat.reduceAdd, Nat.reduceMul, Nat.reduceSub, Int.reduceToNat, Nat.reduceBEq, List.size_toArray, List.length_cons, List.length_nil, Bool.false_and, Bool.true_and, Bool.or_false, Bool.false_or, Bool.and_false, Bool.and_true, c0], by simp (disch := first | (simp only [go_sem, Bool.and_self, eq_self]; done) | omega | (simp only [List.length_cons, List.length_nil]; omega)) only [go_sem, ↓reduceIte, Nat.reduceEqDiff, Nat.reduceAdd, Nat.reduceMul, Nat.reduceSub, Int.reduceToNat, Nat.reduceBEq, List.size_toArray, List.length_cons, List.length_nil, Bool.false_and, Bool.true_and, Bool.or_false, Bool.false_or, Bool.and_false, Bool.and_true, c1], v, V, by simp (disch := first | (simp only [go_sem, Bool.and_self, eq_self]; done) | omega | (simp only [List.length_cons, List.length_nil]; omega)) only [go_sem, ↓reduceIte, Nat.reduceEqDiff, Nat.reduceAdd, Nat.reduceMul, Nat.reduceSub, Int.reduceToNat, Nat.reduceBEq, List.size_toArray, List.length_cons, List.length_nil, Bool.false_and, Bool.true_and, Bool.or_false, Bool.false_or, Bool.and_false, Bool.and_true], ⟨own_put kp c2 _, ap.nil⟩, ⟨own_put nx.own c2 _, fun h => by omega⟩, dd⟩
    rw [put_nx, cn]; omega
  · rintro st h ⟨s1, s2, s3, bn, b0, b1, v, w, b2, ap, aw, d⟩
    have hv := own_cell ap.own
    have hw := own_cell aw.own
    have o1 := own_put ap.own b1 (some (.cells false false [v, w]))
    have o2 := own_put aw.own b1 (some (.cells false false [v, w]))
    have hex := export_net 24 o1 o2 d ap.isNil aw.isNil
    have hm1 : (List.range (min p.length 12)).map (tableRow p) = tableM p := rfl
    have hm2 : (List.range (min t.length 12)).map (tableRow t) = tableM t := rfl
    rw [hm1, hm2] at hex
    simp (disch := first | (simp only [go_sem, Bool.and_self, eq_self]; done) | omega | (simp only [List.length_cons, List.length_nil]; omega)) only [go_sem, ↓reduceIte, Nat.reduceEqDiff, Nat.reduceAdd, Nat.reduceMul, Nat.reduceSub, Int.reduceToNat, Nat.reduceBEq, List.size_toArray, List.length_cons, List.length_nil, Bool.false_and, Bool.true_and, Bool.or_false, Bool.false_or, Bool.and_false, Bool.and_true, s1, s2, s3, bn, b0, b1, b2, hv, hw, hex]

end Go.Proofs.Ytpkakapbepkfdaa
