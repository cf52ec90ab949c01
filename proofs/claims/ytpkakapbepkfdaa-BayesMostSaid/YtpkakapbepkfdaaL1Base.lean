/-
  Building the structs of this layer.
-/
import Derived.Test.YtpkakapbepkfdaaL1Facts
set_option linter.unusedVariables false
set_option linter.unusedSimpArgs false
set_option maxRecDepth 10000
namespace Go.Proofs.Ytpkakapbepkfdaa
open Go Go.Am

variable {c : Cfg} {h h' : Hp} {K : AV → Hp → Prop} {ops : Array Oper} {lim : Option Nat} {st : St}

@[go_sem ↓ high] theorem W_b79z : StepW Try.prog c ops lim (.build 79 #[]) st h K = K (.agg [.nil, .nil, I 0]) h := by
  rw [W_build, show buildB Try.prog (Try.prog.underlying 79) (izero Try.prog 79) ((#[] : Array (Nat × Operand)).toList.map fun p => (p.1, ev st p.2)) = some (.agg [.nil, .nil, I 0]) by kernel_rfl]
  exact getW_some _
@[go_sem ↓ high] theorem W_b29z : StepW Try.prog c ops lim (.build 29 #[]) st h K = K (.agg [I 0, I 0]) h := by
  rw [W_build, show buildB Try.prog (Try.prog.underlying 29) (izero Try.prog 29) ((#[] : Array (Nat × Operand)).toList.map fun p => (p.1, ev st p.2)) = some (.agg [I 0, I 0]) by kernel_rfl]
  exact getW_some _
/-- Two numbers, as a fraction. -/
noncomputable def mk29 (x y : AV) : Option AV := buildB Try.prog (Try.prog.underlying 29) (izero Try.prog 29) [(0, x), (1, y)]
@[go_sem ↓ high] theorem W_b29 (a b : Operand) : StepW Try.prog c ops lim (.build 29 #[(0, a), (1, b)]) st h K = getW (mk29 (ev st a) (ev st b)) h K := by
  rw [W_build]; rfl
@[go_sem] theorem mk29_I (x y : Int) : mk29 (I x) (I y) = some (.agg [I x, I y]) := by kernel_rfl
noncomputable def mk79 (x y : AV) : Option AV := buildB Try.prog (Try.prog.underlying 79) (izero Try.prog 79) [(0, x), (1, y)]
@[go_sem ↓ high] theorem W_b79 (a b : Operand) : StepW Try.prog c ops lim (.build 79 #[(0, a), (1, b)]) st h K = getW (mk79 (ev st a) (ev st b)) h K := by
  rw [W_build]; rfl
@[go_sem] theorem mk79_I (p t : List (List Int)) (n : Int) : mk79 (.agg [LLI p, LLI t]) (I n) = some (.agg [LLI p, LLI t, I n]) := by kernel_rfl
noncomputable def eq29 (x y : AV) : Option AV := binA Try.prog .eql 29 x y
noncomputable def ne29 (x y : AV) : Option AV := binA Try.prog .neq 29 x y
@[go_sem ↓ high] theorem W_eq29 (x y : Operand) (z) : StepW Try.prog c ops lim (.binOp .eql 29 x y z) st h K = getW (eq29 (ev st x) (ev st y)) h K := StepW_pureOp rfl rfl rfl rfl fun _ => rfl
@[go_sem ↓ high] theorem W_ne29 (x y : Operand) (z) : StepW Try.prog c ops lim (.binOp .neq 29 x y z) st h K = getW (ne29 (ev st x) (ev st y)) h K := StepW_pureOp rfl rfl rfl rfl fun _ => rfl
@[go_sem] theorem eq29_I (a b c d : Int) : eq29 (.agg [I a, I b]) (.agg [I c, I d]) = some (.bool (decide (a = c) && decide (b = d))) := by
  have : eq29 (.agg [I a, I b]) (.agg [I c, I d]) = some (.bool ((a == c && (b == d && true)) == true)) := by kernel_rfl
  rw [this]; simp [Bool.beq_eq_decide_eq]
@[go_sem] theorem ne29_I (a b c d : Int) : ne29 (.agg [I a, I b]) (.agg [I c, I d]) = some (.bool (!(decide (a = c) && decide (b = d)))) := by
  have : ne29 (.agg [I a, I b]) (.agg [I c, I d]) = some (.bool ((a == c && (b == d && true)) == false)) := by kernel_rfl
  rw [this]; simp [Bool.beq_eq_decide_eq]

@[go_sem] theorem storeC_w2 (id : Nat) (row : Bool) (a b x y : AV) : storeC h id 0 2 (some (.cells false row [a, b])) [x, y] = if (x.isCell && y.isCell) = true then some (.skp, h.put id (some (.cells false row [x, y]))) else none := by
  simp [storeC, setL]
@[go_sem] theorem storeC_w3 (id : Nat) (row : Bool) (a b c x y z : AV) : storeC h id 0 3 (some (.cells false row [a, b, c])) [x, y, z] = if (x.isCell && (y.isCell && z.isCell)) = true then some (.skp, h.put id (some (.cells false row [x, y, z]))) else none := by
  simp [storeC, setL]

@[go_sem] theorem ev_nilmap : ev st (.const (.map none)) = .nilmp := rfl

/-! ### Results that lie in memory -/
def resC (P : Program) (h : Hp) (t : TypeId) : AV → Option AV
  | .ptr id off => loadC (P.underlying t) (isz P t) (cellsAt none h (.ptr id off))
  | _ => none
@[go_sem] theorem resC_ptr (P : Program) (t : TypeId) (id off : Nat) : resC P h t (.ptr id off) = loadC (P.underlying t) (isz P t) (cellsAt none h (.ptr id off)) := rfl
theorem resA_cell (P : Program) (a t : Nat) : resA P h st (.cell a t) = resC P h t (st a) := by
  simp only [resA]
  cases st a <;> try rfl
  rename_i id off
  simp only [resC, loadC, cellsAt, loadA_B]
  cases rd h none id <;> rfl
@[go_sem] theorem resR_c (P : Program) (a t : Nat) : resR P h st [.cell a t] = resC P h t (st a) := by
  simp only [resR, resL, resA_cell]; cases resC P h t (st a) <;> rfl
@[go_sem] theorem resR_ct (P : Program) (a t u : Nat) : resR P h st [.cell a t, .tmp u] = (resC P h t (st a)).bind fun v => some (.tup [v, st u]) := by
  simp only [resR, resL, resA_cell]; cases resC P h t (st a) <;> rfl
@[go_sem] theorem resR_tct (P : Program) (a t u w : Nat) : resR P h st [.tmp w, .cell a t, .tmp u] = (resC P h t (st a)).bind fun v => some (.tup [st w, v, st u]) := by
  simp only [resR, resL, resA_cell]; cases resC P h t (st a) <;> rfl
@[go_sem] theorem resR_cct (P : Program) (a t b t' u : Nat) : resR P h st [.cell a t, .cell b t', .tmp u] = (resC P h t (st a)).bind fun v => (resC P h t' (st b)).bind fun v' => some (.tup [v, v', st u]) := by
  simp only [resR, resL, resA_cell]; cases resC P h t (st a) <;> cases resC P h t' (st b) <;> rfl

/-! ### copy -/
def slId : AV → Nat
  | .sl id _ _ _ => id
  | _ => 0
@[go_sem] theorem slId_sl (id o n s : Nat) : slId (.sl id o n s) = id := rfl
def copyC (h : Hp) (u : Option TypeDesc) (s : Option Nat) (x : AV) (b : Option Blk) (ys : Option (List AV)) (m : Option Nat) : Option (AV × Hp) :=
  match u, x with
  | some (.slice _), .sl id off n sz => match s, ys, m, b with
    | some sz', some ys, some m, some (.cells false row flat) =>
      if sz' = sz ∧ 0 < sz ∧ ys.length = m * sz ∧ off + n * sz ≤ flat.length ∧ ys.all AV.isCell then
        some (.int .i64 (min m n : Nat), h.put id (some (.cells false row (setL flat off (ys.take (min m n * sz)))))) else none
    | _, _, _, _ => none
  | _, _ => none
@[go_sem ↓] theorem W_copy (x y : Operand) (t t' : TypeId) : StepW Try.prog c ops lim (.call ⟨.builtin .copy, #[x, y], #[t, t']⟩) st h K =
    getW2 (copyC h (Try.prog.underlying t) (isz Try.prog (match Try.prog.underlying t with | some (.slice e) => e | _ => 0)) (ev st x) (h.bl (slId (ev st x))) (cellsOf h none (ev st y)) (lenA (ev st y))) K := by
  refine StepW_writeOp ?_ rfl rfl rfl fun _ => rfl
  simp only [opWrite, copyC, List.getElem?_toArray, List.getElem?_cons_zero, List.getElem?_cons_succ, Option.map_some]
  generalize ev st x = v
  cases v <;> dsimp only <;> generalize Try.prog.underlying t = u <;> (cases u with
    | none => rfl
    | some d => cases d <;> rfl)
theorem setL_front {α : Type} (f : α → AV) (vs xs : List α) (hl : vs.length ≤ xs.length) : setL (xs.flatMap (e1 f)) 0 (vs.flatMap (e1 f)) = (vs ++ xs.drop vs.length).flatMap (e1 f) := by
  have e : ∀ ys : List α, ys.flatMap (e1 f) = ys.map f := by
    intro ys
    induction ys with
    | nil => rfl
    | cons y ys ih => rw [List.flatMap_cons, ih]; rfl
  rw [e, e, e]
  refine List.ext_getElem? fun j => ?_
  rw [(setL_get (vs.map f) (xs.map f) 0 (by simpa using hl)).2 j]
  simp only [Nat.zero_le, true_and, Nat.zero_add, List.length_map, Nat.sub_zero]
  split
  · rename_i hj
    rw [List.map_append, List.getElem?_append_left (by simpa using hj)]
  · rename_i hj
    rw [List.map_append, List.getElem?_append_right (by simp; omega)]
    simp only [List.getElem?_map, List.length_map, List.getElem?_drop]
    congr 2; omega
@[go_sem] theorem copyC_I (e id n : Nat) (row : Bool) (xs vs : List Int) (hl : xs.length = n) (hv : vs.length ≤ n) :
    copyC h (some (.slice e)) (some 1) (.sl id 0 n 1) (some (.cells false row (xs.flatMap (e1 I)))) (some (vs.flatMap (e1 I))) (some vs.length) =
      some (I vs.length, h.put id (some (.cells false row ((vs ++ xs.drop vs.length).flatMap (e1 I))))) := by
  have h1 : (vs.flatMap (e1 I)).all AV.isCell = true := by
    refine List.all_eq_true.2 fun x hx => ?_
    obtain ⟨a, _, ha⟩ := List.mem_flatMap.1 hx
    simp only [e1, List.mem_singleton] at ha
    subst ha; rfl
  have h2 : min vs.length n = vs.length := by omega
  unfold copyC; dsimp only
  rw [if_pos ⟨rfl, by decide, by rw [flat_len]; omega, by rw [flat_len]; omega, h1⟩, h2, List.take_of_length_le (by rw [flat_len]; omega), setL_front _ _ _ (by omega)]

/-! ### A part of an array -/
def sliceC (s : Option Nat) (n off id : Nat) (lo hi : Option AV) (b : Option Blk) (l : Bool) : Option AV :=
  (hiB hi n).bind fun b' => (loB lo b').bind fun a => match s, b with
    | some sz, some (.cells _ false flat) => if off + n * sz ≤ flat.length ∧ n ≤ maxLen ∧ l = true then some (.sl id (off + a * sz) (b' - a) sz) else none
    | _, _ => none
@[go_sem] theorem sliceB_arr (P : Program) (n e id off : Nat) (lo hi : Option AV) : sliceB P (some (.array n e)) (.ptr id off) lo hi h lim = sliceC (isz P e) n off id lo hi (h.bl id) (lims lim id) := rfl
@[go_sem] theorem sliceC_all (id : Nat) (fz : Bool) (xs : List Int) (hl : xs.length = 10) : sliceC (some 1) 10 0 id none none (some (.cells fz false (xs.flatMap (e1 I)))) true = some (.sl id 0 10 1) := by
  have : (10 : Nat) ≤ maxLen := by decide
  have hfl : (xs.flatMap (e1 I)).length = 10 := by rw [flat_len, hl]
  generalize xs.flatMap (e1 I) = fl at hfl
  simp [sliceC, hiB, loB, hfl, this]
@[go_sem] theorem sliceC_to (id : Nat) (fz : Bool) (xs : List Int) (m : Int) (hl : xs.length = 10) (h0 : 0 ≤ m) (h1 : m ≤ 10) : sliceC (some 1) 10 0 id none (some (I m)) (some (.cells fz false (xs.flatMap (e1 I)))) true = some (.sl id 0 m.toNat 1) := by
  have : (10 : Nat) ≤ maxLen := by decide
  have hfl : (xs.flatMap (e1 I)).length = 10 := by rw [flat_len, hl]
  generalize xs.flatMap (e1 I) = fl at hfl
  simp [sliceC, hiB, loB, boundA, hfl, this, h0, h1]

end Go.Proofs.Ytpkakapbepkfdaa
