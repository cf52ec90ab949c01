/-
  Loops that count; bits; contracts put to use.
-/
import Derived.Test.YtcdpkgmkckfonaaAmOpX
set_option linter.unusedVariables false
set_option linter.unusedSimpArgs false
namespace Go.Am
open Go

section
variable {P : Program} {cfg : Cfg} {st : St} {h : Hp} {Q : Exit → St → Hp → Prop}

attribute [go_sem] Bool.false_eq_true Bool.true_eq_false Option.getD_some Option.bind_some Option.map_some List.map_cons List.map_nil List.cons_append List.nil_append Option.map_none
  List.getElem?_toArray List.getElem?_cons_zero List.getElem?_cons_succ Int.ofNat_lt Int.ofNat_le Int.natCast_inj Int.toNat_natCast Int.toNat_zero Int.toNat_one decide_true decide_false not_true_eq_false
  not_false_eq_true ne_eq Bool.not_true Bool.not_false Nat.zero_add Nat.mul_one List.drop_zero cellsOf_L lenA_L List.length_map and_self and_true true_and and_false false_and
attribute [go_sem] CallW_out idxAddr_L idxAddr_sl idxAddr_arr idxAddr_parr idxV_arr slice_L_hi slice_L_lo sealSl_own

/-- What a round must come to: one further, or out of it. -/
def ForK (c n : Nat) (J : Nat → St → Hp → Prop) (i : Nat) (Q : Exit → St → Hp → Prop) : Exit → St → Hp → Prop := fun x st h => match x with | .normal => i < n ∧ st c = I ((i : Int) + 1) ∧ J (i + 1) st h | x => Q x st h
theorem ForK_normal (c n : Nat) (J : Nat → St → Hp → Prop) (i : Nat) : ForK c n J i Q .normal st h = (i < n ∧ st c = I ((i : Int) + 1) ∧ J (i + 1) st h) := rfl
@[go_sem ↓] theorem ForK_exit (c n : Nat) (J : Nat → St → Hp → Prop) (i j : Nat) : ForK c n J i Q (.exit j) st h = Q (.exit j) st h := rfl
@[go_sem ↓] theorem ForK_ret (c n : Nat) (J : Nat → St → Hp → Prop) (i : Nat) : ForK c n J i Q .ret st h = Q .ret st h := rfl
/-- Counting up. 'c': where the counter stands. -/
theorem WP_for {b : Code} (c n : Nat) (J : Nat → St → Hp → Prop) (h0 : st c = I 0) (hJ : J 0 st h)
    (step : ∀ (i : Nat) st h, i ≤ n → st c = I (i : Int) → J i st h → WP P cfg b st h (ForK c n J i Q)) : WP P cfg (.loop b) st h Q := by
  refine WP_loopK (fun m st h => ∃ i : Nat, m = n - i ∧ i ≤ n ∧ st c = I (i : Int) ∧ J i st h) n ⟨0, by omega, by omega, h0, hJ⟩ ?_
  rintro m st h ⟨i, rfl, hi, hc, hj⟩
  refine WP_mono (step i st h hi hc hj) fun x s g hx => ?_
  cases x with
  | normal =>
    obtain ⟨h1, h2, h3⟩ := hx
    exact ⟨n - (i + 1), by omega, i + 1, rfl, by omega, by rw [h2]; rfl, h3⟩
  | exit j => exact hx
  | ret => exact hx
  | _ => exact hx

/-- Counting up from 1. -/
def For1K (c n : Nat) (J : Nat → St → Hp → Prop) (i : Nat) (Q : Exit → St → Hp → Prop) : Exit → St → Hp → Prop := fun x st h => match x with | .normal => i < n ∧ st c = I ((i : Int) + 1 + 1) ∧ J (i + 1) st h | x => Q x st h
theorem For1K_normal (c n : Nat) (J : Nat → St → Hp → Prop) (i : Nat) : For1K c n J i Q .normal st h = (i < n ∧ st c = I ((i : Int) + 1 + 1) ∧ J (i + 1) st h) := rfl
@[go_sem ↓] theorem For1K_exit (c n : Nat) (J : Nat → St → Hp → Prop) (i j : Nat) : For1K c n J i Q (.exit j) st h = Q (.exit j) st h := rfl
@[go_sem ↓] theorem For1K_ret (c n : Nat) (J : Nat → St → Hp → Prop) (i : Nat) : For1K c n J i Q .ret st h = Q .ret st h := rfl
theorem WP_for1 {b : Code} (c n : Nat) (J : Nat → St → Hp → Prop) (h0 : st c = I 1) (hJ : J 0 st h)
    (step : ∀ (i : Nat) st h, i ≤ n → st c = I ((i : Int) + 1) → J i st h → WP P cfg b st h (For1K c n J i Q)) : WP P cfg (.loop b) st h Q := by
  refine WP_loopK (fun m st h => ∃ i : Nat, m = n - i ∧ i ≤ n ∧ st c = I ((i : Int) + 1) ∧ J i st h) n ⟨0, by omega, by omega, h0, hJ⟩ ?_
  rintro m st h ⟨i, rfl, hi, hc, hj⟩
  refine WP_mono (step i st h hi hc hj) fun x s g hx => ?_
  cases x with
  | normal =>
    obtain ⟨h1, h2, h3⟩ := hx
    exact ⟨n - (i + 1), by omega, i + 1, rfl, by omega, by rw [h2]; rfl, h3⟩
  | exit j => exact hx
  | ret => exact hx
  | _ => exact hx

/-- Sums and products over the first n numbers. -/
def sumN (f : Nat → Int) : Nat → Int
  | 0 => 0
  | n + 1 => sumN f n + f n
theorem sumN_congr {f g : Nat → Int} : ∀ {n : Nat}, (∀ i, i < n → f i = g i) → sumN f n = sumN g n
  | 0, _ => rfl
  | n + 1, h => by rw [sumN, sumN, sumN_congr fun i hi => h i (by omega), h n (by omega)]
theorem sumN_bounds {f : Nat → Int} {lo hi : Int} : ∀ {n : Nat}, (∀ i, i < n → lo ≤ f i ∧ f i ≤ hi) → lo * n ≤ sumN f n ∧ sumN f n ≤ hi * n
  | 0, _ => by simp [sumN]
  | n + 1, h => by
    obtain ⟨h1, h2⟩ := sumN_bounds fun i hi => h i (Nat.lt_succ_of_lt hi)
    obtain ⟨h3, h4⟩ := h n (Nat.lt_succ_self n)
    rw [sumN, Int.natCast_add, Int.mul_add, Int.mul_add]
    simp only [Int.natCast_one, Int.mul_one]
    omega

/-- A cell of a row of single cells, set. -/
theorem set_flat {α : Type} (f : α → AV) (xs : List α) (i : Nat) (v : α) : (xs.flatMap (e1 f)).set i (f v) = (xs.set i v).flatMap (e1 f) := by
  have : ∀ ys : List α, ys.flatMap (e1 f) = ys.map f := by
    intro ys
    induction ys with
    | nil => rfl
    | cons y ys ih => rw [List.flatMap_cons, ih]; rfl
  rw [this, this, List.map_set]
theorem flat_len {α : Type} (f : α → AV) (xs : List α) : (xs.flatMap (e1 f)).length = xs.length := by
  induction xs with
  | nil => rfl
  | cons x xs ih => rw [List.flatMap_cons, List.length_append, ih]; simp [e1]; omega
theorem flat_get {α : Type} [Inhabited α] (f : α → AV) (xs : List α) (i : Nat) (hi : i < xs.length) : (xs.flatMap (e1 f))[i]? = some (f (nth xs i)) := by
  have : ∀ ys : List α, ys.flatMap (e1 f) = ys.map f := by
    intro ys
    induction ys with
    | nil => rfl
    | cons y ys ih => rw [List.flatMap_cons, ih]; rfl
  rw [this, List.getElem?_map, nth_get hi]; rfl
/-- A store into a row of single cells. -/
theorem store_e1 {α : Type} (f : α → AV) [RowEnc (e1 f) 1] (id i : Nat) (row : Bool) (xs : List α) (v : α) (hi : i < xs.length) :
    storeC h id i 1 (some (.cells false row (xs.flatMap (e1 f)))) [f v] = some (.skp, h.put id (some (.cells false row ((xs.set i v).flatMap (e1 f))))) := by
  rw [storeC_one id i row _ (f v) (RowEnc.cell (f := e1 f) v (f v) (by simp [e1])) (by rw [flat_len]; exact hi), set_flat]
@[go_sem] theorem store_I (id i : Nat) (row : Bool) (xs : List Int) (v : Int) (hi : i < xs.length) :
    storeC h id i 1 (some (.cells false row (xs.flatMap (e1 I)))) [.int .i64 v] = some (.skp, h.put id (some (.cells false row ((xs.set i v).flatMap (e1 I))))) := store_e1 I id i row xs v hi
@[go_sem] theorem store_B (id i : Nat) (row : Bool) (xs : List Bool) (v : Bool) (hi : i < xs.length) :
    storeC h id i 1 (some (.cells false row (xs.flatMap (e1 AV.bool)))) [.bool v] = some (.skp, h.put id (some (.cells false row ((xs.set i v).flatMap (e1 AV.bool))))) := store_e1 AV.bool id i row xs v hi
theorem nth_set {α : Type} [Inhabited α] (xs : List α) (i j : Nat) (v : α) (hi : i < xs.length) : nth (xs.set i v) j = if i = j then v else nth xs j := by
  simp only [nth, List.getElem?_set]
  by_cases h : i = j
  · subst h; simp [hi]
  · simp [h]
theorem nth_map_range {α : Type} [Inhabited α] (f : Nat → α) (n j : Nat) (hj : j < n) : nth ((List.range n).map f) j = f j := by simp [nth, hj]
theorem nth_replicate {α : Type} [Inhabited α] (n j : Nat) (a : α) (hj : j < n) : nth (List.replicate n a) j = a := by simp [nth, hj]

/-- A row of l that is filled up to j. -/
def fillR {α : Type} (l : Nat) (f : Nat → α) (z : α) (j : Nat) : List α := (List.range l).map fun c => if c < j then f c else z
theorem fillR_len {α : Type} (l : Nat) (f : Nat → α) (z : α) (j : Nat) : (fillR l f z j).length = l := by simp [fillR]
theorem fillR_nth {α : Type} [Inhabited α] {l : Nat} {f : Nat → α} {z : α} {j c : Nat} (hc : c < l) : nth (fillR l f z j) c = if c < j then f c else z := by rw [fillR, nth_map_range _ _ _ hc]
theorem fillR_set {α : Type} [Inhabited α] {l : Nat} {f : Nat → α} {z : α} {j : Nat} (hj : j < l) : (fillR l f z j).set j (f j) = fillR l f z (j + 1) := by
  refine list_ext_nth (by simp [fillR_len]) fun c hc => ?_
  rw [List.length_set, fillR_len] at hc
  rw [nth_set _ _ _ _ (by rw [fillR_len]; exact hj), fillR_nth hc, fillR_nth hc]
  by_cases h : j = c
  · subst h; simp
  · rw [if_neg h]
    by_cases h2 : c < j
    · rw [if_pos h2, if_pos (by omega)]
    · rw [if_neg h2, if_neg (by omega)]
theorem fillR_zero {α : Type} [Inhabited α] {l : Nat} {f : Nat → α} {z : α} : fillR l f z 0 = List.replicate l z := by
  refine list_ext_nth (by simp [fillR_len]) fun c hc => ?_
  rw [fillR_len] at hc
  rw [fillR_nth hc, nth_replicate _ _ _ hc]
  simp
/-- The first n rows. -/
theorem rows_snoc {α : Type} (f : Nat → α) (n : Nat) : (List.range n).map f ++ [f n] = (List.range (n + 1)).map f := by rw [List.range_succ, List.map_append]; rfl

/-- 'append(v, x)', one cell a row. -/
theorem app_one {v : AV} {α : Type} {f : α → AV} [RowEnc (e1 f) 1] {xs : List α} {h2 : Hp} (o : Own (e1 f) 1 h2 v xs) (e : TypeId) (by_ : Nat) (z : AV) (y : α) (hs : isz P e = some 1) (hb : ibytes P e = some by_) (hz : izero P e = some z) (hzl : z.cells.length = 1)
    (h1 : (xs.length + 1) * by_ ≤ 140737488355328) (h3 : xs.length + 1 ≤ 140737488355328) :
    appB P h2 (some (.slice e)) true v (.lst [[f y]]) = some (appV h2 (xs ++ [y]).length 1, appH h2 v ((xs ++ [y]).flatMap (e1 f))) :=
  app_Own o e by_ z (.lst [[f y]]) [y] hs hb hz hzl rfl rfl h1 h3

/-- Two ways that meet again. -/
def JoinK (J : St → Hp → Prop) : Exit → St → Hp → Prop := fun x st h => match x with | .normal => J st h | _ => False
@[go_sem ↓] theorem JoinK_normal (J : St → Hp → Prop) : JoinK J .normal st h = J st h := rfl
theorem condW_join {p : Prop} {_ : Decidable p} {A B rest : Code} (J : St → Hp → Prop) (h1 : p → WP P cfg A st h (JoinK J)) (h2 : ¬ p → WP P cfg B st h (JoinK J)) (h3 : ∀ st' h', J st' h' → WP P cfg rest st' h' Q) :
    condW (.bool (decide p)) (WP P cfg A st h (SeqK P cfg rest Q)) (WP P cfg B st h (SeqK P cfg rest Q)) := by
  have key : ∀ x s g, JoinK J x s g → SeqK P cfg rest Q x s g := by
    intro x s g hx
    cases x with
    | normal => exact h3 s g hx
    | _ => exact hx.elim
  exact condW_dec (fun hp => WP_mono (h1 hp) key) (fun hp => WP_mono (h2 hp) key)

/-- What is known behind a loop. -/
def CutK (J : St → Hp → Prop) (Q : Exit → St → Hp → Prop) : Exit → St → Hp → Prop := fun x st h => match x with | .normal => J st h | x => Q x st h
@[go_sem ↓] theorem CutK_normal (J : St → Hp → Prop) : CutK J Q .normal st h = J st h := rfl
@[go_sem ↓] theorem CutK_exit (J : St → Hp → Prop) (j : Nat) : CutK J Q (.exit j) st h = Q (.exit j) st h := rfl
@[go_sem ↓] theorem CutK_ret (J : St → Hp → Prop) : CutK J Q .ret st h = Q .ret st h := rfl
theorem WP_cut {b : Code} {id : Nat} (J : St → Hp → Prop) (h1 : WP P cfg b st h (BlockK id (CutK J Q))) (h2 : ∀ st h, J st h → Q .normal st h) : WP P cfg b st h (BlockK id Q) := by
  refine WP_mono h1 fun x s g hx => ?_
  cases x with
  | normal => exact h2 s g hx
  | exit j =>
    simp only [BlockK] at hx ⊢
    split
    · rename_i hj; rw [if_pos hj] at hx; exact h2 s g hx
    · rename_i hj; rw [if_neg hj] at hx; exact hx
  | _ => exact hx

/-! ### Bits -/
theorem binA_shl (t : TypeId) (k j : IntKind) (a b : Int) (hb : 0 ≤ b) : binA P .shl t (.int k a) (.int j b) = some (.int k (k.wrap (a * 2 ^ (min b.toNat k.bits)))) := by
  simp [binA, binI, isShift, Int.not_lt.2 hb]
theorem binA_shr (t : TypeId) (k j : IntKind) (a b : Int) (hb : 0 ≤ b) : binA P .shr t (.int k a) (.int j b) = some (.int k (a.fdiv (2 ^ (min b.toNat k.bits)))) := by
  simp [binA, binI, isShift, Int.not_lt.2 hb]
theorem ofInt64 (a : Nat) (ha : a < 9223372036854775808) : (BitVec.ofInt 64 (a : Int)).toNat = a := by
  rw [BitVec.ofInt_natCast, BitVec.toNat_ofNat]; exact Nat.mod_eq_of_lt (by omega)
theorem binA_and (t : TypeId) (a b : Nat) (ha : a < 9223372036854775808) (hb : b < 9223372036854775808) : binA P .and t (I a) (I b) = some (I ((a &&& b : Nat) : Int)) := by
  have h1 : a &&& b < 2 ^ 63 := Nat.and_lt_two_pow _ (by omega)
  have e : binA P .and t (I a) (I b) = some (I (IntKind.i64.wrap ((BitVec.ofInt 64 (a : Int) &&& BitVec.ofInt 64 (b : Int)).toNat : Int))) := rfl
  rw [e, BitVec.toNat_and, ofInt64 a ha, ofInt64 b hb, wrap_ok _ (by omega) (by omega)]
/-- '1 << d'. -/
theorem shl_one (t : TypeId) (d : Nat) (hd : d < 63) : binA P .shl t (I 1) (I d) = some (I ((2 ^ d : Nat) : Int)) := by
  have h2 : (2 : Nat) ^ d < 2 ^ 63 := Nat.pow_lt_pow_right (by omega) hd
  rw [binA_shl _ _ _ _ _ (by omega)]
  have e : min ((d : Int).toNat) IntKind.i64.bits = d := by simp [IntKind.bits]; omega
  rw [e, Int.one_mul]
  have e2 : ((2 : Int) ^ d) = ((2 ^ d : Nat) : Int) := by simp
  rw [e2]
  generalize (2 : Nat) ^ d = q at h2 ⊢
  rw [wrap_ok _ (by omega) (by omega)]
/-- 'm >> d'. -/
theorem shr_nat (t : TypeId) (m d : Nat) (hd : d < 64) : binA P .shr t (I m) (I d) = some (I ((m >>> d : Nat) : Int)) := by
  rw [binA_shr _ _ _ _ _ (by omega)]
  have e : min ((d : Int).toNat) IntKind.i64.bits = d := by simp [IntKind.bits]; omega
  rw [e, Nat.shiftRight_eq_div_pow]
  congr 2
  have e2 : ((2 : Int) ^ d) = ((2 ^ d : Nat) : Int) := by simp
  rw [e2]
  generalize (2 : Nat) ^ d = q
  rw [Int.fdiv_eq_ediv_of_nonneg _ (by omega)]
  exact (Int.natCast_ediv _ _).symm
theorem bit_test (m d : Nat) : (m >>> d) &&& 1 = if m.testBit d then 1 else 0 := by
  rw [Nat.and_one_is_mod, Nat.testBit_eq_decide_div_mod_eq, Nat.shiftRight_eq_div_pow]
  by_cases h : m / 2 ^ d % 2 = 1
  · simp [h]
  · have : m / 2 ^ d % 2 = 0 := by omega
    simp [this]

@[go_sem] theorem loadC_arr2 (m : Nat) (t : TypeId) (a b : AV) : loadC (some (.array m t)) (some 2) (some ([a, b], 0)) = some (.agg [a, b]) := by simp [loadC, loadB, aggD]
/-! ### More than one result -/
def ex1 (a : AV) (o : Option (AV × Hp)) : Option AV := o.map fun x => .tup [a, x.1]
def ex1b (a b : AV) (o : Option (AV × Hp)) : Option AV := o.map fun x => .tup [a, b, x.1]
def ex2 (o : Option (AV × Hp)) (w : AV) : Option AV := o.bind fun x => ex1 x.1 (sealA x.2 w)
def ex2b (a : AV) (o : Option (AV × Hp)) (w : AV) : Option AV := o.bind fun x => ex1b a x.1 (sealA x.2 w)
def ex3 (o : Option (AV × Hp)) (w u : AV) : Option AV := o.bind fun x => ex2b x.1 (sealA x.2 w) u
theorem exportV_plain (t : TypeId) (h : Hp) (used : List Nat) (v : AV) : exportV P false false t h used v = (sealA h v).map fun x => (x.1, x.2, used) := by
  unfold exportV
  rw [if_neg (by simp)]
@[go_sem] theorem export_two (t u : TypeId) (v w : AV) : exportR P false false [t, u] h (.tup [v, w]) = ex2 (sealA h v) w := by
  simp only [exportR, exportL, exportV_plain, ex2, ex1]
  cases sealA h v with
  | none => rfl
  | some x =>
    simp only [Option.map_some, Option.bind_some]
    cases sealA x.2 w <;> rfl
@[go_sem] theorem export_three (t u r : TypeId) (v w x : AV) : exportR P false false [t, u, r] h (.tup [v, w, x]) = ex3 (sealA h v) w x := by
  simp only [exportR, exportL, exportV_plain, ex3, ex2b, ex1b]
  cases sealA h v with
  | none => rfl
  | some y =>
    simp only [Option.map_some, Option.bind_some]
    cases sealA y.2 w with
    | none => rfl
    | some z =>
      simp only [Option.map_some, Option.bind_some]
      cases sealA z.2 x <;> rfl
@[go_sem] theorem ex1_some (a b : AV) : ex1 a (some (b, h)) = some (.tup [a, b]) := rfl
@[go_sem] theorem ex1b_some (a b c : AV) : ex1b a b (some (c, h)) = some (.tup [a, b, c]) := rfl
@[go_sem] theorem ex2_some (a b : AV) : ex2 (some (a, h)) b = ex1 a (sealA h b) := rfl
@[go_sem] theorem ex2b_some (a b c : AV) : ex2b a (some (b, h)) c = ex1b a b (sealA h c) := rfl
@[go_sem] theorem ex3_some (a b c : AV) : ex3 (some (a, h)) b c = ex2b a (sealA h b) c := rfl
/-! ### Aggregates -/
def buildB (P : Program) (u : Option TypeDesc) (z : Option AV) (ps : List (Nat × AV)) : Option AV :=
  match z with
    | some (.agg z) => if z.all AV.isCell ∧ (ps.all fun x => x.2.cells.all AV.isCell) then
      match u with
      | some (.struct fs) => if fs.all fun f => (isz P f.type).isSome then (fillA (fun i => (fs[i]?).bind fun f => (isz P f.type).map fun s => (f.offset, s)) z ps).map .agg else none
      | some (.array _ e) => match isz P e with
        | some s => (fillA (fun i => some (i * s, s)) z ps).map .agg
        | none => none
      | _ => none
      else none
    | _ => none
@[go_sem ↓] theorem W_build {ops : Array Oper} {lim : Option Nat} {K : AV → Hp → Prop} (t : TypeId) (parts : Array (Nat × Operand)) :
    StepW P cfg ops lim (.build t parts) st h K = getW (buildB P (P.underlying t) (izero P t) (parts.toList.map fun p => (p.1, ev st p.2))) h K := by
  refine StepW_pureOp ?_ rfl rfl rfl fun _ => rfl
  simp only [opPure, buildB, List.all_map, Function.comp_def]
  rfl
/-- One part of two cells: a slice of one. -/
theorem bsB_pair (e : TypeId) (a b x y : Int) (hs : isz P e = some 2) (hz : izero P e = some (.agg [I x, I y])) :
    bsB P h (some (.slice e)) 1 [(0, .agg [I a, I b])] = some (.lst [[I a, I b]], h) := by
  simp [bsB, hs, hz, fillA, setL, AV.cells, AV.isCell, AV.pureL, AV.isPure, sealArgs, sealA, chunk, chunkF]
/-- 'append(v, pair)'. -/
theorem app_pair {v : AV} {xs : List (Int × Int)} {h2 : Hp} (o : Own eP 2 h2 v xs) (e : TypeId) (by_ : Nat) (z : AV) (a b : Int) (hs : isz P e = some 2) (hb : ibytes P e = some by_) (hz : izero P e = some z) (hzl : z.cells.length = 2)
    (h1 : (xs.length + 1) * by_ ≤ 140737488355328) (h3 : xs.length + 1 ≤ 140737488355328) :
    appB P h2 (some (.slice e)) true v (.lst [[I a, I b]]) = some (appV h2 (xs ++ [(a, b)]).length 2, appH h2 v ((xs ++ [(a, b)]).flatMap eP)) :=
  app_Own o e by_ z (.lst [[I a, I b]]) [(a, b)] hs hb hz hzl rfl rfl h1 h3

/-! ### Several slices that are being built -/
/-- Two values that name no block together. -/
def Dis (v w : AV) : Prop := ∀ id off n sz id' off' n' sz', v = .sl id off n sz → w = .sl id' off' n' sz' → id ≠ id'
theorem Dis.symm {v w : AV} (d : Dis v w) : Dis w v := fun _ _ _ _ _ _ _ _ h1 h2 => (d _ _ _ _ _ _ _ _ h2 h1).symm
theorem Dis.nil_l (w : AV) : Dis .nil w := fun _ _ _ _ _ _ _ _ h => by cases h
theorem Dis.nil_r (w : AV) : Dis w .nil := fun _ _ _ _ _ _ _ _ _ h => by cases h
theorem Own.keep {α : Type} {f : α → List AV} {sz : Nat} {v w : AV} {xs : List α} {h2 : Hp} (o : Own f sz h2 w xs) (hd : Dis v w) (flat : List AV) : Own f sz (appH h2 v flat) w xs := by
  rcases o with o | ⟨id, e, hi, hc⟩
  · exact .inl o
  · refine .inr ⟨id, e, by rw [appH_nx]; omega, ?_⟩
    rw [appH_bl _ _ _ _ hi (fun id' off n sz' e' => (hd _ _ _ _ _ _ _ _ e' e).symm)]; exact hc
theorem Own.dis {α : Type} {f : α → List AV} {sz : Nat} {w : AV} {xs : List α} {h2 : Hp} (o : Own f sz h2 w xs) (n sz' : Nat) : Dis (appV h2 n sz') w := by
  intro id off m s id' off' m' s' e1 e2
  rcases o with ⟨rfl, _⟩ | ⟨i, e, hi, hc⟩
  · cases e2
  · unfold appV at e1; cases e1; rw [e] at e2; cases e2; omega
theorem Own.lenB {α : Type} {f : α → List AV} {sz : Nat} {w : AV} {xs : List α} {h2 : Hp} (o : Own f sz h2 w xs) (e : TypeId) (g : Hp) (lim : Option Nat) : lenB (some (.slice e)) w g lim = some (I xs.length) := by
  rcases o with ⟨rfl, rfl⟩ | ⟨i, rfl, hi, hc⟩ <;> rfl
/-- With something in it, it is a block. -/
theorem Own.sl {α : Type} {f : α → List AV} {sz : Nat} {w : AV} {xs : List α} {h2 : Hp} (o : Own f sz h2 w xs) (hn : 0 < xs.length) : ∃ id, w = .sl id 0 xs.length sz ∧ id < h2.nx ∧ h2.bl id = some (.cells false true (xs.flatMap f)) := by
  rcases o with ⟨_, rfl⟩ | o
  · cases hn
  · exact o
/-- A pointer to what nobody writes. -/
@[go_sem] theorem sealA_pp (cs : List AV) (hp : AV.pureL cs = true) : sealA h (.pp cs) = some (.pp cs, h) := sealA_pure hp (by simp)
theorem storeC_single (id : Nat) (row : Bool) (x y : AV) (hx : x.isCell = true) : storeC h id 0 1 (some (.cells false row [y])) [x] = some (.skp, h.put id (some (.cells false row [x]))) := by
  simp [storeC, hx, setL]
@[go_sem] theorem storeC_int (id : Nat) (row : Bool) (y : AV) (k : IntKind) (n : Int) : storeC h id 0 1 (some (.cells false row [y])) [.int k n] = some (.skp, h.put id (some (.cells false row [.int k n]))) := storeC_single _ _ _ _ rfl
@[go_sem] theorem storeC_fn (id : Nat) (row : Bool) (y : AV) (f : FuncId) (cs : List AV) : storeC h id 0 1 (some (.cells false row [y])) [.fn f cs] = some (.skp, h.put id (some (.cells false row [.fn f cs]))) := storeC_single _ _ _ _ rfl
/-- A closure that has caught one variable. -/
theorem sealA_fn1 (g : FuncId) (id : Nat) (fz row : Bool) (x : AV) (hx : x.isPure = true) (hb : h.bl id = some (.cells fz row [x])) : sealA h (.fn g [.ptr id 0]) = some (.fn g [.pp [x]], h.put id (some (.cells true row [x]))) := by
  have h1 : sealV0 h (.ptr id 0) = some (.pp [x], h.put id (some (.cells true row [x]))) := by
    simp only [sealV0, AV.isPure, hb, AV.pureL, hx]; simp
  have h2 : (AV.fn g [.ptr id 0]).isPure = false := rfl
  simp only [sealA, h2, sealCells, sealV, h1]
  rfl

@[go_sem] theorem loadC_func (ps rs : Array TypeId) (vr : Bool) (n : Nat) (cs : List AV) (off : Nat) : loadC (some (.func ps rs vr)) (some n) (some (cs, off)) = cs[off]? := loadC_one _ _ rfl _ _
theorem setL_all (xs ys zs : List AV) (hl : xs.length = ys.length) : setL (zs ++ xs) zs.length ys = zs ++ ys := by
  induction ys generalizing xs zs with
  | nil =>
    have : xs = [] := List.eq_nil_of_length_eq_zero hl
    subst this; rfl
  | cons y ys ih =>
    cases xs with
    | nil => cases hl
    | cons x xs =>
      have := ih xs (zs ++ [y]) (by simpa using hl)
      simp only [List.append_assoc, List.length_append, List.length_cons, List.length_nil, List.singleton_append] at this
      simp only [setL]
      rw [List.set_append_right _ _ (Nat.le_refl _), Nat.sub_self, List.set_cons_zero]
      exact this
@[go_sem] theorem RetS_ret (rs : List ResultVar) (K : AV → Hp → Prop) : RetS P rs K .ret st h = getW (resR P h st rs) h K := by simp [RetS, getW]
/-! ### Maps -/
def mapK (u : Option TypeDesc) : TypeId := match u with | some (.map k _) => k | _ => 0
def mapE (u : Option TypeDesc) : TypeId := match u with | some (.map _ e) => e | _ => 0
def mpId : AV → Nat
  | .mp id => id
  | _ => 0
@[go_sem] theorem mapK_map (k e : TypeId) : mapK (some (.map k e)) = k := rfl
@[go_sem] theorem mapE_map (k e : TypeId) : mapE (some (.map k e)) = e := rfl
@[go_sem] theorem mpId_mp (id : Nat) : mpId (.mp id) = id := rfl
def updB (h : Hp) (u kt' : Option TypeDesc) (m : AV) (b : Option Blk) (k x : AV) : Option (AV × Hp) :=
  match u, m, k with
  | some (.map _ _), .mp id, .int .i64 n => match b, kt' with
    | some (.mp fz es), some (.int .i64) => if fz then none else some (.skp, h.put id (some (.mp false (putK n x es))))
    | _, _ => none
  | _, _, _ => none
@[go_sem] theorem updB_one (kt et : TypeId) (id : Nat) (es : List (Int × AV)) (n : Int) (x : AV) : updB h (some (.map kt et)) (some (.int .i64)) (.mp id) (some (.mp false es)) (I n) x = some (.skp, h.put id (some (.mp false (putK n x es)))) := rfl
theorem initSt6 (a b c d e f : AV) : initSt [a, b, c, d, e, f] = upd (upd (upd (upd (upd (upd st0 0 a) 1 b) 2 c) 3 d) 4 e) 5 f := by
  funext i; simp only [initSt, st0, upd]
  match i with
  | 0 => rfl
  | 1 => rfl
  | 2 => rfl
  | 3 => rfl
  | 4 => rfl
  | 5 => rfl
  | i + 6 => simp
/-! ### Bits of two numbers -/
/-! ### Results that are no numbers -/
@[go_sem] theorem importR_L {α : Type} (f : α → List AV) (xs : List α) : importR h (L f xs) = (L f xs, h) := rfl
@[go_sem] theorem importR_lst (xs : List (List AV)) : importR h (.lst xs) = (.lst xs, h) := rfl
@[go_sem] theorem importR_fresh (sz : Nat) (flat : List AV) : importR h (.fresh sz flat) = (.sl h.nx 0 (flat.length / sz) sz, h.alloc (.cells false true flat)) := rfl
@[go_sem] theorem importR_agg (cs : List AV) : importR h (.agg cs) = (.agg cs, h) := rfl
end
end Go.Am

