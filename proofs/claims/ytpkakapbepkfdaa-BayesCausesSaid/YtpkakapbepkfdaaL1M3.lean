/-
  mod, tame: some network, made of any.
  ints: two lists compared.
  Valid fractions; networks on their way.
  The weights of all rows add up.
  force: the network in which a variable has a value.
  The reference's Force; same.
  Force and Effect.
  'BayesForces' answers true.
-/
import Derived.Test.YtpkakapbepkfdaaL1M2
set_option linter.unusedVariables false
set_option linter.unusedSimpArgs false
set_option maxRecDepth 10000
namespace Go.Proofs.Ytpkakapbepkfdaa
open Go Go.Am

variable {h h' : Hp} {K : AV → Hp → Prop}

/-- A contract whose answer is only described. -/
theorem Con_introE {P : Program} {cfg : Cfg} {f : FuncId} {fn : Func} {args : List AV} {R : AV → Prop} (hf : P.funcs[f]? = some fn) (hbody : fn.body.isSome = true) (hok : funcOk cfg fn (fn.body.getD .skip) = true) (hl : args.length ≤ fn.ntmps) (hext : cfg.ext f args = none)
    (hw : WP P cfg (fn.body.getD .skip) (initSt args) Hp.empty (fun x st h => ∃ r, RetK P (cfg.own f) (cfg.keepNil f) fn.results.toList fn.resultTypes.toList r x st h ∧ R r)) : ∃ r, Con P cfg f args r ∧ R r := by
  obtain ⟨k, x, st', h', e, r, hr, q⟩ := hw
  exact ⟨r, Con_intro hf hbody hok hl hext ⟨k, x, st', h', e, hr⟩, q⟩

@[go_sem] theorem und105 : Try.prog.underlying 105 = some (.int .u64) := Try.underlying105
def modI (x n : Int) : Int := x % 18446744073709551616 % n
theorem modI_bounds (x : Int) {n : Int} (hn : 0 < n) : 0 ≤ modI x n ∧ modI x n < n := ⟨Int.emod_nonneg _ (by omega), Int.emod_lt_of_pos _ hn⟩
theorem f31_con (x n : Int) (hn : 0 < n ∧ n ≤ 9223372036854775807) : Con Try.prog cfg 31 [I x, I n] (I (modI x n)) := by
  have hw : ∀ y, IntKind.wrap .u64 y = y % 18446744073709551616 := fun y => rfl
  have hn2 : n % 18446744073709551616 = n := Int.emod_eq_of_lt (by omega) (by omega)
  have hx := Int.emod_nonneg x (b := 18446744073709551616) (by decide)
  have ht : (x % 18446744073709551616).tmod n = modI x n := by rw [modI, Int.tmod_eq_emod_of_nonneg hx]
  have hb := modI_bounds x hn.1
  have hne : ¬ n = 0 := by omega
  refine Con_intro Try.func31 rfl ok31 (Nat.le_of_ble_eq_true rfl) rfl ?_
  simp only [Try.f31, Option.getD_some, initSt2]
  simp (disch := first | (simp only [go_sem, Bool.and_self, eq_self]; done) | omega | (simp only [List.length_cons, List.length_nil]; omega)) only [go_sem, ↓reduceIte, Nat.reduceEqDiff, Nat.reduceAdd, Nat.reduceMul, Nat.reduceSub, Int.reduceToNat, Nat.reduceBEq, List.size_toArray, List.length_cons, List.length_nil, Bool.false_and, Bool.true_and, Bool.or_false, Bool.false_or, Bool.and_false, Bool.and_true, hw, hn2, ht, hne]
theorem k31 (x n : Int) (hn : 0 < n ∧ n ≤ 9223372036854775807) : ConW Try.prog cfg 31 h (some ([I x, I n], h')) K = K (I (modI x n)) h := ConW_num (f31_con x n hn) rfl

/-! ### Lists that may be nil -/
def LV (v : AV) (p : List (List Int)) : Prop := v = LLI p ∨ (v = .nil ∧ p = [])
theorem LV.len {v : AV} {p : List (List Int)} (l : LV v p) (h : Hp) (lim : Option Nat) : lenB (some (.slice 25)) v h lim = some (I p.length) := by
  rcases l with rfl | ⟨rfl, rfl⟩
  · exact lenB_L _ _ _
  · rfl
theorem LV.cell {v : AV} {p : List (List Int)} (l : LV v p) : v.isCell = true := by
  rcases l with rfl | ⟨rfl, rfl⟩ <;> rfl
theorem LV.some {v : AV} {p : List (List Int)} (l : LV v p) {i : Nat} (hi : i < p.length) : v = LLI p := by
  rcases l with rfl | ⟨_, rfl⟩
  · rfl
  · cases hi

/-! ### Rows of a network -/
def rowOK (i : Nat) (r t : List Int) : Bool :=
  decide (r.length ≤ 3) && decide (t.length = 2 ^ r.length) && (List.range r.length).all (parB r i) && !t.any fun x => !inB x 0 16
theorem rowB_def (p t : List (List Int)) (i : Nat) : rowB p t i = rowOK i (nth p i) (nth t i) := rfl
/-- What 'tame' has in memory between two rounds. -/
structure TF (pv tv : AV) (P T : List (List Int)) (v w : AV) (h : Hp) : Prop where
  nx : 4 ≤ h.nx
  b1 : h.bl 1 = some (.cells false false [.nil, .nil])
  b2 : h.bl 2 = some (.cells false false [pv, tv])
  b3 : h.bl 3 = some (.cells false false [v, w])
  ov : Own (e1 LI) 1 h v P
  ow : Own (e1 LI) 1 h w T
  d : Dis v w
theorem Own.keepX {α : Type} {f : α → List AV} {sz : Nat} {v x : AV} {xs : List α} {h h' : Hp} (o : Own f sz h v xs) (hn : h.nx ≤ h'.nx) (hb : ∀ i, i < h.nx → (∀ id off n sz', x = .sl id off n sz' → i ≠ id) → h'.bl i = h.bl i) (d : Dis x v) : Own f sz h' v xs := by
  rcases o with o | ⟨id, e, hi, hc⟩
  · exact .inl o
  · exact .inr ⟨id, e, by omega, (hb id hi fun id' off n sz' e' => (d _ _ _ _ _ _ _ _ e' e).symm).trans hc⟩
theorem TF.mono {pv tv v w x : AV} {P T : List (List Int)} {α : Type} {f : α → List AV} {sz : Nat} {xs : List α} (F : TF pv tv P T v w h) (hn : h.nx ≤ h'.nx) (ox : Own f sz h x xs) (hb : ∀ i, i < h.nx → (∀ id off n sz', x = .sl id off n sz' → i ≠ id) → h'.bl i = h.bl i) (dv : Dis x v) (dw : Dis x w) : TF pv tv P T v w h' :=
  ⟨Nat.le_trans F.nx hn, (hb 1 (by have := F.nx; omega) (own_ne ox F.b1)).trans F.b1, (hb 2 (by have := F.nx; omega) (own_ne ox F.b2)).trans F.b2, (hb 3 (by have := F.nx; omega) (own_ne ox F.b3)).trans F.b3, Own.keepX F.ov hn hb dv, Own.keepX F.ow hn hb dw, F.d⟩
theorem TF.alloc {pv tv v w : AV} {P T : List (List Int)} (F : TF pv tv P T v w h) (b : Blk) : TF pv tv P T v w (h.alloc b) :=
  F.mono (x := .nil) (f := e1 I) (sz := 1) (xs := []) (by simp [Hp.alloc]) (.inl ⟨rfl, rfl⟩) (fun i hi _ => by simp [Hp.alloc, show ¬ i = h.nx by omega]) (Dis.nil_l _) (Dis.nil_l _)

/-- The parents chosen so far: below 'v', ascending. -/
structure Asc (v : Int) (r : List Int) : Prop where
  len : r.length ≤ 3
  lo : ∀ j, j < r.length → 0 ≤ nth r j ∧ nth r j < v
  up : ∀ j, 0 < j → j < r.length → nth r (j - 1) < nth r j
theorem Asc.le {v v' : Int} {r : List Int} (a : Asc v r) (h : v ≤ v') : Asc v' r := ⟨a.len, fun j hj => ⟨(a.lo j hj).1, by have := (a.lo j hj).2; omega⟩, a.up⟩
theorem Asc.snoc {v : Int} {r : List Int} (a : Asc v r) (h0 : 0 ≤ v) (hl : r.length < 3) : Asc (v + 1) (r ++ [v]) := by
  have last : nth (r ++ [v]) r.length = v := by rw [nth, List.getElem?_append_right (Nat.le_refl _)]; simp
  refine ⟨by simp; omega, fun j hj => ?_, fun j h1 hj => ?_⟩
  · simp only [List.length_append, List.length_singleton] at hj
    rcases Nat.lt_or_ge j r.length with h | h
    · rw [nth_append_left _ _ _ h]; have := a.lo j h; omega
    · rw [show j = r.length by omega, last]; omega
  · simp only [List.length_append, List.length_singleton] at hj
    rw [nth_append_left _ _ _ (by omega)]
    rcases Nat.lt_or_ge j r.length with h | h
    · rw [nth_append_left _ _ _ h]; exact a.up j h1 h
    · rw [show j = r.length by omega, last]; exact (a.lo _ (by omega)).2
theorem Asc.ok {i : Nat} {r t : List Int} (a : Asc i r) (ht : t.length = 2 ^ r.length) (hb : ∀ j, j < t.length → 0 ≤ nth t j ∧ nth t j ≤ 16) : rowOK i r t = true := by
  simp only [rowOK, Bool.and_eq_true, decide_eq_true_eq, Bool.not_eq_true']
  refine ⟨⟨⟨a.len, ht⟩, all_range fun j hj => ?_⟩, ?_⟩
  · have h1 := a.lo j hj
    simp only [parB, Bool.and_eq_true, Bool.or_eq_true, beq_iff_eq, decide_eq_true_eq]
    refine ⟨by simp [inB]; omega, ?_⟩
    rcases Nat.eq_zero_or_pos j with h | h
    · exact .inl h
    · exact .inr (a.up j h hj)
  · rw [List.any_eq_false]
    intro x hx
    obtain ⟨j, hj, rfl⟩ := List.getElem_of_mem hx
    rw [← nth_getElem hj]
    have := hb j hj
    simp [inB]; omega

/-- What follows the first n parts. -/
def tailN : Nat → Code → Code
  | 0, c => c
  | n + 1, .seq _ b => tailN n b
  | _, c => c

/-- The first n parts, with something else behind them. -/
def withTail : Nat → Code → Code → Code
  | 0, _, T => T
  | n + 1, .seq a b, T => .seq a (withTail n b T)
  | _, c, _ => c

def TameR (m : Int) : AV → Prop := fun r => ∃ P T, netB P T = true ∧ (P.length : Int) ≤ m ∧ r = .agg [LLI P, LLI T]
theorem f30_tail (p t : List (List Int)) (pv tv : AV) (lpv : LV pv p) (ltv : LV tv t) (okp : okLL p) (okt : okLL t) (lp : p.length ≤ 12) (lt : t.length ≤ 12) (m : Int) (hm : 1 ≤ m ∧ m ≤ 10) (st : St) (h : Hp) (s1 : st 1 = I m) (s4 : st 4 = .ptr 1 0) (s5 : st 5 = .ptr 2 0)
    (hn : h.nx = 3) (b1 : h.bl 1 = some (.cells false false [.nil, .nil])) (b2 : h.bl 2 = some (.cells false false [pv, tv])) :
    WP Try.prog cfg (tailN 3 (Try.f30.body.getD .skip)) st h (fun x st h => ∃ r, RetK Try.prog (cfg.own 30) (cfg.keepNil 30) Try.f30.results.toList Try.f30.resultTypes.toList r x st h ∧ TameR m r) := by
  have ml : maxLen = 9223372036854775807 := by decide
  have klp := lpv.len
  have klt := ltv.len
  have kk := fun h h' K => k31 (h := h) (h' := h') (K := K) (p.length - 1) m (by omega)
  have hmo := modI_bounds ((p.length : Int) - 1) (n := m) (by omega)
  simp only [tailN, Try.f30, Option.getD_some]
  obtain ⟨k, hk⟩ : ∃ k : Nat, (k : Int) = 1 + modI ((p.length : Int) - 1) m := ⟨(1 + modI ((p.length : Int) - 1) m).toNat, by omega⟩
  have e3 : ∀ i, i ≠ 3 → True := fun _ _ => trivial
  simp (disch := first | (simp only [go_sem, Bool.and_self, eq_self]; done) | omega | (simp only [List.length_cons, List.length_nil]; omega)) only [go_sem, ↓reduceIte, Nat.reduceEqDiff, Nat.reduceAdd, Nat.reduceMul, Nat.reduceSub, Int.reduceToNat, Nat.reduceBEq, List.size_toArray, List.length_cons, List.length_nil, Bool.false_and, Bool.true_and, Bool.or_false, Bool.false_or, Bool.and_false, Bool.and_true, s1, s4, s5, hn, b1, b2, klp, klt, kk, ← hk]
  refine WP_cut (fun st h => st 4 = .ptr 1 0 ∧ st 5 = .ptr 2 0 ∧ st 6 = I k ∧ st 7 = .ptr 3 0 ∧ ∃ P T v w, TF pv tv P T v w h ∧ P.length = k ∧ T.length = k ∧ ∀ j, j < k → rowOK j (nth P j) (nth T j) = true) ?_ ?_
  · refine WP_for 8 k (fun i st h => st 4 = .ptr 1 0 ∧ st 5 = .ptr 2 0 ∧ st 6 = I k ∧ st 7 = .ptr 3 0 ∧ ∃ P T v w, TF pv tv P T v w h ∧ P.length = i ∧ T.length = i ∧ ∀ j, j < i → rowOK j (nth P j) (nth T j) = true) (by simp (disch := first | (simp only [go_sem, Bool.and_self, eq_self]; done) | omega | (simp only [List.length_cons, List.length_nil]; omega)) only [go_sem, ↓reduceIte, Nat.reduceEqDiff, Nat.reduceAdd, Nat.reduceMul, Nat.reduceSub, Int.reduceToNat, Nat.reduceBEq, List.size_toArray, List.length_cons, List.length_nil, Bool.false_and, Bool.true_and, Bool.or_false, Bool.false_or, Bool.and_false, Bool.and_true]) ⟨by simp (disch := first | (simp only [go_sem, Bool.and_self, eq_self]; done) | omega | (simp only [List.length_cons, List.length_nil]; omega)) only [go_sem, ↓reduceIte, Nat.reduceEqDiff, Nat.reduceAdd, Nat.reduceMul, Nat.reduceSub, Int.reduceToNat, Nat.reduceBEq, List.size_toArray, List.length_cons, List.length_nil, Bool.false_and, Bool.true_and, Bool.or_false, Bool.false_or, Bool.and_false, Bool.and_true, s4, s5], by simp (disch := first | (simp only [go_sem, Bool.and_self, eq_self]; done) | omega | (simp only [List.length_cons, List.length_nil]; omega)) only [go_sem, ↓reduceIte, Nat.reduceEqDiff, Nat.reduceAdd, Nat.reduceMul, Nat.reduceSub, Int.reduceToNat, Nat.reduceBEq, List.size_toArray, List.length_cons, List.length_nil, Bool.false_and, Bool.true_and, Bool.or_false, Bool.false_or, Bool.and_false, Bool.and_true, s4, s5], by simp (disch := first | (simp only [go_sem, Bool.and_self, eq_self]; done) | omega | (simp only [List.length_cons, List.length_nil]; omega)) only [go_sem, ↓reduceIte, Nat.reduceEqDiff, Nat.reduceAdd, Nat.reduceMul, Nat.reduceSub, Int.reduceToNat, Nat.reduceBEq, List.size_toArray, List.length_cons, List.length_nil, Bool.false_and, Bool.true_and, Bool.or_false, Bool.false_or, Bool.and_false, Bool.and_true, s4, s5], by simp (disch := first | (simp only [go_sem, Bool.and_self, eq_self]; done) | omega | (simp only [List.length_cons, List.length_nil]; omega)) only [go_sem, ↓reduceIte, Nat.reduceEqDiff, Nat.reduceAdd, Nat.reduceMul, Nat.reduceSub, Int.reduceToNat, Nat.reduceBEq, List.size_toArray, List.length_cons, List.length_nil, Bool.false_and, Bool.true_and, Bool.or_false, Bool.false_or, Bool.and_false, Bool.and_true, s4, s5], [], [], .nil, .nil, ⟨?_, ?_, ?_, ?_, .inl ⟨rfl, rfl⟩, .inl ⟨rfl, rfl⟩, Dis.nil_l _⟩, rfl, rfl, by omega⟩ ?_
    · simp (disch := first | (simp only [go_sem, Bool.and_self, eq_self]; done) | omega | (simp only [List.length_cons, List.length_nil]; omega)) only [go_sem, ↓reduceIte, Nat.reduceEqDiff, Nat.reduceAdd, Nat.reduceMul, Nat.reduceSub, Int.reduceToNat, Nat.reduceBEq, List.size_toArray, List.length_cons, List.length_nil, Bool.false_and, Bool.true_and, Bool.or_false, Bool.false_or, Bool.and_false, Bool.and_true, hn]; omega
    · simp (disch := first | (simp only [go_sem, Bool.and_self, eq_self]; done) | omega | (simp only [List.length_cons, List.length_nil]; omega)) only [go_sem, ↓reduceIte, Nat.reduceEqDiff, Nat.reduceAdd, Nat.reduceMul, Nat.reduceSub, Int.reduceToNat, Nat.reduceBEq, List.size_toArray, List.length_cons, List.length_nil, Bool.false_and, Bool.true_and, Bool.or_false, Bool.false_or, Bool.and_false, Bool.and_true, hn, b1]
    · simp (disch := first | (simp only [go_sem, Bool.and_self, eq_self]; done) | omega | (simp only [List.length_cons, List.length_nil]; omega)) only [go_sem, ↓reduceIte, Nat.reduceEqDiff, Nat.reduceAdd, Nat.reduceMul, Nat.reduceSub, Int.reduceToNat, Nat.reduceBEq, List.size_toArray, List.length_cons, List.length_nil, Bool.false_and, Bool.true_and, Bool.or_false, Bool.false_or, Bool.and_false, Bool.and_true, hn, b2]
    · simp (disch := first | (simp only [go_sem, Bool.and_self, eq_self]; done) | omega | (simp only [List.length_cons, List.length_nil]; omega)) only [go_sem, ↓reduceIte, Nat.reduceEqDiff, Nat.reduceAdd, Nat.reduceMul, Nat.reduceSub, Int.reduceToNat, Nat.reduceBEq, List.size_toArray, List.length_cons, List.length_nil, Bool.false_and, Bool.true_and, Bool.or_false, Bool.false_or, Bool.and_false, Bool.and_true, hn]
    rintro i st h hi s8 ⟨s4, s5, s6, s7, P, T, v, w, F, hPl, hTl, hok⟩
    by_cases hlt : i < k
    case neg =>
      have hik : k = i := by omega
      subst hik
      simp (disch := first | (simp only [go_sem, Bool.and_self, eq_self]; done) | omega | (simp only [List.length_cons, List.length_nil]; omega)) only [go_sem, ↓reduceIte, Nat.reduceEqDiff, Nat.reduceAdd, Nat.reduceMul, Nat.reduceSub, Int.reduceToNat, Nat.reduceBEq, List.size_toArray, List.length_cons, List.length_nil, Bool.false_and, Bool.true_and, Bool.or_false, Bool.false_or, Bool.and_false, Bool.and_true, s4, s5, s6, s7, s8, hlt]
      exact ⟨P, T, v, w, F, hPl, hTl, hok⟩
    simp (disch := first | (simp only [go_sem, Bool.and_self, eq_self]; done) | omega | (simp only [List.length_cons, List.length_nil]; omega)) only [go_sem, ↓reduceIte, Nat.reduceEqDiff, Nat.reduceAdd, Nat.reduceMul, Nat.reduceSub, Int.reduceToNat, Nat.reduceBEq, List.size_toArray, List.length_cons, List.length_nil, Bool.false_and, Bool.true_and, Bool.or_false, Bool.false_or, Bool.and_false, Bool.and_true, s4, s5, s6, s7, s8, hlt]
    refine WP_cut (fun st h => st 4 = .ptr 1 0 ∧ st 5 = .ptr 2 0 ∧ st 6 = I k ∧ st 7 = .ptr 3 0 ∧ st 8 = I i ∧ TF pv tv P T v w h ∧ ∃ x rr, st 9 = x ∧ Own (e1 I) 1 h x rr ∧ Asc i rr ∧ Dis x v ∧ Dis x w) ?_ ?_
    · refine WP_for 10 i (fun c st h => st 4 = .ptr 1 0 ∧ st 5 = .ptr 2 0 ∧ st 6 = I k ∧ st 7 = .ptr 3 0 ∧ st 8 = I i ∧ TF pv tv P T v w h ∧ ∃ x rr, st 9 = x ∧ Own (e1 I) 1 h x rr ∧ Asc c rr ∧ Dis x v ∧ Dis x w) (by simp (disch := first | (simp only [go_sem, Bool.and_self, eq_self]; done) | omega | (simp only [List.length_cons, List.length_nil]; omega)) only [go_sem, ↓reduceIte, Nat.reduceEqDiff, Nat.reduceAdd, Nat.reduceMul, Nat.reduceSub, Int.reduceToNat, Nat.reduceBEq, List.size_toArray, List.length_cons, List.length_nil, Bool.false_and, Bool.true_and, Bool.or_false, Bool.false_or, Bool.and_false, Bool.and_true]) ⟨by simp (disch := first | (simp only [go_sem, Bool.and_self, eq_self]; done) | omega | (simp only [List.length_cons, List.length_nil]; omega)) only [go_sem, ↓reduceIte, Nat.reduceEqDiff, Nat.reduceAdd, Nat.reduceMul, Nat.reduceSub, Int.reduceToNat, Nat.reduceBEq, List.size_toArray, List.length_cons, List.length_nil, Bool.false_and, Bool.true_and, Bool.or_false, Bool.false_or, Bool.and_false, Bool.and_true, s4, s5, s6, s7, s8], by simp (disch := first | (simp only [go_sem, Bool.and_self, eq_self]; done) | omega | (simp only [List.length_cons, List.length_nil]; omega)) only [go_sem, ↓reduceIte, Nat.reduceEqDiff, Nat.reduceAdd, Nat.reduceMul, Nat.reduceSub, Int.reduceToNat, Nat.reduceBEq, List.size_toArray, List.length_cons, List.length_nil, Bool.false_and, Bool.true_and, Bool.or_false, Bool.false_or, Bool.and_false, Bool.and_true, s4, s5, s6, s7, s8], by simp (disch := first | (simp only [go_sem, Bool.and_self, eq_self]; done) | omega | (simp only [List.length_cons, List.length_nil]; omega)) only [go_sem, ↓reduceIte, Nat.reduceEqDiff, Nat.reduceAdd, Nat.reduceMul, Nat.reduceSub, Int.reduceToNat, Nat.reduceBEq, List.size_toArray, List.length_cons, List.length_nil, Bool.false_and, Bool.true_and, Bool.or_false, Bool.false_or, Bool.and_false, Bool.and_true, s4, s5, s6, s7, s8], by simp (disch := first | (simp only [go_sem, Bool.and_self, eq_self]; done) | omega | (simp only [List.length_cons, List.length_nil]; omega)) only [go_sem, ↓reduceIte, Nat.reduceEqDiff, Nat.reduceAdd, Nat.reduceMul, Nat.reduceSub, Int.reduceToNat, Nat.reduceBEq, List.size_toArray, List.length_cons, List.length_nil, Bool.false_and, Bool.true_and, Bool.or_false, Bool.false_or, Bool.and_false, Bool.and_true, s4, s5, s6, s7, s8], by simp (disch := first | (simp only [go_sem, Bool.and_self, eq_self]; done) | omega | (simp only [List.length_cons, List.length_nil]; omega)) only [go_sem, ↓reduceIte, Nat.reduceEqDiff, Nat.reduceAdd, Nat.reduceMul, Nat.reduceSub, Int.reduceToNat, Nat.reduceBEq, List.size_toArray, List.length_cons, List.length_nil, Bool.false_and, Bool.true_and, Bool.or_false, Bool.false_or, Bool.and_false, Bool.and_true, s4, s5, s6, s7, s8], F, .nil, [], by simp (disch := first | (simp only [go_sem, Bool.and_self, eq_self]; done) | omega | (simp only [List.length_cons, List.length_nil]; omega)) only [go_sem, ↓reduceIte, Nat.reduceEqDiff, Nat.reduceAdd, Nat.reduceMul, Nat.reduceSub, Int.reduceToNat, Nat.reduceBEq, List.size_toArray, List.length_cons, List.length_nil, Bool.false_and, Bool.true_and, Bool.or_false, Bool.false_or, Bool.and_false, Bool.and_true], .inl ⟨rfl, rfl⟩, ⟨by simp, by simp, by simp⟩, Dis.nil_l _, Dis.nil_l _⟩ ?_
      rintro c st h hc s10 ⟨s4, s5, s6, s7, s8, F, x, rr, s9, ox, ar, dv, dw⟩
      by_cases hci : c < i
      case neg =>
        simp (disch := first | (simp only [go_sem, Bool.and_self, eq_self]; done) | omega | (simp only [List.length_cons, List.length_nil]; omega)) only [go_sem, ↓reduceIte, Nat.reduceEqDiff, Nat.reduceAdd, Nat.reduceMul, Nat.reduceSub, Int.reduceToNat, Nat.reduceBEq, List.size_toArray, List.length_cons, List.length_nil, Bool.false_and, Bool.true_and, Bool.or_false, Bool.false_or, Bool.and_false, Bool.and_true, s4, s5, s6, s7, s8, s10, hci]
        exact ⟨F, x, rr, s9, ox, ar.le (by omega), dv, dw⟩
      have b2 := F.b2
      by_cases hip : i < p.length
      case neg =>
        simp (disch := first | (simp only [go_sem, Bool.and_self, eq_self]; done) | omega | (simp only [List.length_cons, List.length_nil]; omega)) only [go_sem, ↓reduceIte, Nat.reduceEqDiff, Nat.reduceAdd, Nat.reduceMul, Nat.reduceSub, Int.reduceToNat, Nat.reduceBEq, List.size_toArray, List.length_cons, List.length_nil, Bool.false_and, Bool.true_and, Bool.or_false, Bool.false_or, Bool.and_false, Bool.and_true, s4, s5, s6, s7, s8, s10, hci, b2, klp, hip]
        exact ⟨F, x, rr, s9, ox, ar.le (by omega), dv, dw⟩
      have hpe := lpv.some hip
      rw [hpe] at b2
      have hxc := own_cell ox
      simp (disch := first | (simp only [go_sem, Bool.and_self, eq_self]; done) | omega | (simp only [List.length_cons, List.length_nil]; omega)) only [go_sem, ↓reduceIte, Nat.reduceEqDiff, Nat.reduceAdd, Nat.reduceMul, Nat.reduceSub, Int.reduceToNat, Nat.reduceBEq, List.size_toArray, List.length_cons, List.length_nil, Bool.false_and, Bool.true_and, Bool.or_false, Bool.false_or, Bool.and_false, Bool.and_true, s4, s5, s6, s7, s8, s10, hci, b2, hip]
      refine WP_cut (fun st h' => st 4 = .ptr 1 0 ∧ st 5 = .ptr 2 0 ∧ st 6 = I k ∧ st 7 = .ptr 3 0 ∧ st 8 = I i ∧ st 10 = I c ∧ st 9 = x ∧ h' = h ∧ ∃ b, st 11 = .bool b) ?_ ?_
      · refine WP_for 12 (nth p i).length (fun j st h' => st 4 = .ptr 1 0 ∧ st 5 = .ptr 2 0 ∧ st 6 = I k ∧ st 7 = .ptr 3 0 ∧ st 8 = I i ∧ st 10 = I c ∧ st 9 = x ∧ h' = h ∧ ∃ b, st 11 = .bool b) (by simp (disch := first | (simp only [go_sem, Bool.and_self, eq_self]; done) | omega | (simp only [List.length_cons, List.length_nil]; omega)) only [go_sem, ↓reduceIte, Nat.reduceEqDiff, Nat.reduceAdd, Nat.reduceMul, Nat.reduceSub, Int.reduceToNat, Nat.reduceBEq, List.size_toArray, List.length_cons, List.length_nil, Bool.false_and, Bool.true_and, Bool.or_false, Bool.false_or, Bool.and_false, Bool.and_true]) ⟨by simp (disch := first | (simp only [go_sem, Bool.and_self, eq_self]; done) | omega | (simp only [List.length_cons, List.length_nil]; omega)) only [go_sem, ↓reduceIte, Nat.reduceEqDiff, Nat.reduceAdd, Nat.reduceMul, Nat.reduceSub, Int.reduceToNat, Nat.reduceBEq, List.size_toArray, List.length_cons, List.length_nil, Bool.false_and, Bool.true_and, Bool.or_false, Bool.false_or, Bool.and_false, Bool.and_true, s4, s5, s6, s7, s8], by simp (disch := first | (simp only [go_sem, Bool.and_self, eq_self]; done) | omega | (simp only [List.length_cons, List.length_nil]; omega)) only [go_sem, ↓reduceIte, Nat.reduceEqDiff, Nat.reduceAdd, Nat.reduceMul, Nat.reduceSub, Int.reduceToNat, Nat.reduceBEq, List.size_toArray, List.length_cons, List.length_nil, Bool.false_and, Bool.true_and, Bool.or_false, Bool.false_or, Bool.and_false, Bool.and_true, s4, s5, s6, s7, s8], by simp (disch := first | (simp only [go_sem, Bool.and_self, eq_self]; done) | omega | (simp only [List.length_cons, List.length_nil]; omega)) only [go_sem, ↓reduceIte, Nat.reduceEqDiff, Nat.reduceAdd, Nat.reduceMul, Nat.reduceSub, Int.reduceToNat, Nat.reduceBEq, List.size_toArray, List.length_cons, List.length_nil, Bool.false_and, Bool.true_and, Bool.or_false, Bool.false_or, Bool.and_false, Bool.and_true, s4, s5, s6, s7, s8], by simp (disch := first | (simp only [go_sem, Bool.and_self, eq_self]; done) | omega | (simp only [List.length_cons, List.length_nil]; omega)) only [go_sem, ↓reduceIte, Nat.reduceEqDiff, Nat.reduceAdd, Nat.reduceMul, Nat.reduceSub, Int.reduceToNat, Nat.reduceBEq, List.size_toArray, List.length_cons, List.length_nil, Bool.false_and, Bool.true_and, Bool.or_false, Bool.false_or, Bool.and_false, Bool.and_true, s4, s5, s6, s7, s8], by simp (disch := first | (simp only [go_sem, Bool.and_self, eq_self]; done) | omega | (simp only [List.length_cons, List.length_nil]; omega)) only [go_sem, ↓reduceIte, Nat.reduceEqDiff, Nat.reduceAdd, Nat.reduceMul, Nat.reduceSub, Int.reduceToNat, Nat.reduceBEq, List.size_toArray, List.length_cons, List.length_nil, Bool.false_and, Bool.true_and, Bool.or_false, Bool.false_or, Bool.and_false, Bool.and_true, s4, s5, s6, s7, s8], by simp (disch := first | (simp only [go_sem, Bool.and_self, eq_self]; done) | omega | (simp only [List.length_cons, List.length_nil]; omega)) only [go_sem, ↓reduceIte, Nat.reduceEqDiff, Nat.reduceAdd, Nat.reduceMul, Nat.reduceSub, Int.reduceToNat, Nat.reduceBEq, List.size_toArray, List.length_cons, List.length_nil, Bool.false_and, Bool.true_and, Bool.or_false, Bool.false_or, Bool.and_false, Bool.and_true, s10], by simp (disch := first | (simp only [go_sem, Bool.and_self, eq_self]; done) | omega | (simp only [List.length_cons, List.length_nil]; omega)) only [go_sem, ↓reduceIte, Nat.reduceEqDiff, Nat.reduceAdd, Nat.reduceMul, Nat.reduceSub, Int.reduceToNat, Nat.reduceBEq, List.size_toArray, List.length_cons, List.length_nil, Bool.false_and, Bool.true_and, Bool.or_false, Bool.false_or, Bool.and_false, Bool.and_true, s9], rfl, false, by simp (disch := first | (simp only [go_sem, Bool.and_self, eq_self]; done) | omega | (simp only [List.length_cons, List.length_nil]; omega)) only [go_sem, ↓reduceIte, Nat.reduceEqDiff, Nat.reduceAdd, Nat.reduceMul, Nat.reduceSub, Int.reduceToNat, Nat.reduceBEq, List.size_toArray, List.length_cons, List.length_nil, Bool.false_and, Bool.true_and, Bool.or_false, Bool.false_or, Bool.and_false, Bool.and_true]⟩ ?_
        rintro j st h' hj s12 ⟨s4, s5, s6, s7, s8, s10, s9, rfl, b, s11⟩
        have hml := okp.2 _ (nth_mem hip)
        by_cases hjl : j < (nth p i).length
        case neg =>
          simp (disch := first | (simp only [go_sem, Bool.and_self, eq_self]; done) | omega | (simp only [List.length_cons, List.length_nil]; omega)) only [go_sem, ↓reduceIte, Nat.reduceEqDiff, Nat.reduceAdd, Nat.reduceMul, Nat.reduceSub, Int.reduceToNat, Nat.reduceBEq, List.size_toArray, List.length_cons, List.length_nil, Bool.false_and, Bool.true_and, Bool.or_false, Bool.false_or, Bool.and_false, Bool.and_true, s4, s5, s6, s7, s8, s10, s12, b2, hip, hjl]
          exact ⟨s9, b, s11⟩
        have k2 := fun h h'' K => k31 (h := h) (h' := h'') (K := K) (nth (nth p i) j) i (by omega)
        cases b with
        | true =>
          simp (disch := first | (simp only [go_sem, Bool.and_self, eq_self]; done) | omega | (simp only [List.length_cons, List.length_nil]; omega)) only [go_sem, ↓reduceIte, Nat.reduceEqDiff, Nat.reduceAdd, Nat.reduceMul, Nat.reduceSub, Int.reduceToNat, Nat.reduceBEq, List.size_toArray, List.length_cons, List.length_nil, Bool.false_and, Bool.true_and, Bool.or_false, Bool.false_or, Bool.and_false, Bool.and_true, s4, s5, s6, s7, s8, s10, s11, s12, b2, hip, hjl]
          rw [ForK_normal]
          exact ⟨hjl, by simp (disch := first | (simp only [go_sem, Bool.and_self, eq_self]; done) | omega | (simp only [List.length_cons, List.length_nil]; omega)) only [go_sem, ↓reduceIte, Nat.reduceEqDiff, Nat.reduceAdd, Nat.reduceMul, Nat.reduceSub, Int.reduceToNat, Nat.reduceBEq, List.size_toArray, List.length_cons, List.length_nil, Bool.false_and, Bool.true_and, Bool.or_false, Bool.false_or, Bool.and_false, Bool.and_true, s12], by simp (disch := first | (simp only [go_sem, Bool.and_self, eq_self]; done) | omega | (simp only [List.length_cons, List.length_nil]; omega)) only [go_sem, ↓reduceIte, Nat.reduceEqDiff, Nat.reduceAdd, Nat.reduceMul, Nat.reduceSub, Int.reduceToNat, Nat.reduceBEq, List.size_toArray, List.length_cons, List.length_nil, Bool.false_and, Bool.true_and, Bool.or_false, Bool.false_or, Bool.and_false, Bool.and_true, s4], by simp (disch := first | (simp only [go_sem, Bool.and_self, eq_self]; done) | omega | (simp only [List.length_cons, List.length_nil]; omega)) only [go_sem, ↓reduceIte, Nat.reduceEqDiff, Nat.reduceAdd, Nat.reduceMul, Nat.reduceSub, Int.reduceToNat, Nat.reduceBEq, List.size_toArray, List.length_cons, List.length_nil, Bool.false_and, Bool.true_and, Bool.or_false, Bool.false_or, Bool.and_false, Bool.and_true, s5], by simp (disch := first | (simp only [go_sem, Bool.and_self, eq_self]; done) | omega | (simp only [List.length_cons, List.length_nil]; omega)) only [go_sem, ↓reduceIte, Nat.reduceEqDiff, Nat.reduceAdd, Nat.reduceMul, Nat.reduceSub, Int.reduceToNat, Nat.reduceBEq, List.size_toArray, List.length_cons, List.length_nil, Bool.false_and, Bool.true_and, Bool.or_false, Bool.false_or, Bool.and_false, Bool.and_true, s6], by simp (disch := first | (simp only [go_sem, Bool.and_self, eq_self]; done) | omega | (simp only [List.length_cons, List.length_nil]; omega)) only [go_sem, ↓reduceIte, Nat.reduceEqDiff, Nat.reduceAdd, Nat.reduceMul, Nat.reduceSub, Int.reduceToNat, Nat.reduceBEq, List.size_toArray, List.length_cons, List.length_nil, Bool.false_and, Bool.true_and, Bool.or_false, Bool.false_or, Bool.and_false, Bool.and_true, s7], by simp (disch := first | (simp only [go_sem, Bool.and_self, eq_self]; done) | omega | (simp only [List.length_cons, List.length_nil]; omega)) only [go_sem, ↓reduceIte, Nat.reduceEqDiff, Nat.reduceAdd, Nat.reduceMul, Nat.reduceSub, Int.reduceToNat, Nat.reduceBEq, List.size_toArray, List.length_cons, List.length_nil, Bool.false_and, Bool.true_and, Bool.or_false, Bool.false_or, Bool.and_false, Bool.and_true, s8], by simp (disch := first | (simp only [go_sem, Bool.and_self, eq_self]; done) | omega | (simp only [List.length_cons, List.length_nil]; omega)) only [go_sem, ↓reduceIte, Nat.reduceEqDiff, Nat.reduceAdd, Nat.reduceMul, Nat.reduceSub, Int.reduceToNat, Nat.reduceBEq, List.size_toArray, List.length_cons, List.length_nil, Bool.false_and, Bool.true_and, Bool.or_false, Bool.false_or, Bool.and_false, Bool.and_true, s10], by simp (disch := first | (simp only [go_sem, Bool.and_self, eq_self]; done) | omega | (simp only [List.length_cons, List.length_nil]; omega)) only [go_sem, ↓reduceIte, Nat.reduceEqDiff, Nat.reduceAdd, Nat.reduceMul, Nat.reduceSub, Int.reduceToNat, Nat.reduceBEq, List.size_toArray, List.length_cons, List.length_nil, Bool.false_and, Bool.true_and, Bool.or_false, Bool.false_or, Bool.and_false, Bool.and_true, s9], rfl, true, by simp (disch := first | (simp only [go_sem, Bool.and_self, eq_self]; done) | omega | (simp only [List.length_cons, List.length_nil]; omega)) only [go_sem, ↓reduceIte, Nat.reduceEqDiff, Nat.reduceAdd, Nat.reduceMul, Nat.reduceSub, Int.reduceToNat, Nat.reduceBEq, List.size_toArray, List.length_cons, List.length_nil, Bool.false_and, Bool.true_and, Bool.or_false, Bool.false_or, Bool.and_false, Bool.and_true]⟩
        | false =>
          simp (disch := first | (simp only [go_sem, Bool.and_self, eq_self]; done) | omega | (simp only [List.length_cons, List.length_nil]; omega)) only [go_sem, ↓reduceIte, Nat.reduceEqDiff, Nat.reduceAdd, Nat.reduceMul, Nat.reduceSub, Int.reduceToNat, Nat.reduceBEq, List.size_toArray, List.length_cons, List.length_nil, Bool.false_and, Bool.true_and, Bool.or_false, Bool.false_or, Bool.and_false, Bool.and_true, s4, s5, s6, s7, s8, s10, s11, s12, b2, hip, hjl, k2]
          rw [ForK_normal]
          exact ⟨hjl, by simp (disch := first | (simp only [go_sem, Bool.and_self, eq_self]; done) | omega | (simp only [List.length_cons, List.length_nil]; omega)) only [go_sem, ↓reduceIte, Nat.reduceEqDiff, Nat.reduceAdd, Nat.reduceMul, Nat.reduceSub, Int.reduceToNat, Nat.reduceBEq, List.size_toArray, List.length_cons, List.length_nil, Bool.false_and, Bool.true_and, Bool.or_false, Bool.false_or, Bool.and_false, Bool.and_true, s12], by simp (disch := first | (simp only [go_sem, Bool.and_self, eq_self]; done) | omega | (simp only [List.length_cons, List.length_nil]; omega)) only [go_sem, ↓reduceIte, Nat.reduceEqDiff, Nat.reduceAdd, Nat.reduceMul, Nat.reduceSub, Int.reduceToNat, Nat.reduceBEq, List.size_toArray, List.length_cons, List.length_nil, Bool.false_and, Bool.true_and, Bool.or_false, Bool.false_or, Bool.and_false, Bool.and_true, s4], by simp (disch := first | (simp only [go_sem, Bool.and_self, eq_self]; done) | omega | (simp only [List.length_cons, List.length_nil]; omega)) only [go_sem, ↓reduceIte, Nat.reduceEqDiff, Nat.reduceAdd, Nat.reduceMul, Nat.reduceSub, Int.reduceToNat, Nat.reduceBEq, List.size_toArray, List.length_cons, List.length_nil, Bool.false_and, Bool.true_and, Bool.or_false, Bool.false_or, Bool.and_false, Bool.and_true, s5], by simp (disch := first | (simp only [go_sem, Bool.and_self, eq_self]; done) | omega | (simp only [List.length_cons, List.length_nil]; omega)) only [go_sem, ↓reduceIte, Nat.reduceEqDiff, Nat.reduceAdd, Nat.reduceMul, Nat.reduceSub, Int.reduceToNat, Nat.reduceBEq, List.size_toArray, List.length_cons, List.length_nil, Bool.false_and, Bool.true_and, Bool.or_false, Bool.false_or, Bool.and_false, Bool.and_true, s6], by simp (disch := first | (simp only [go_sem, Bool.and_self, eq_self]; done) | omega | (simp only [List.length_cons, List.length_nil]; omega)) only [go_sem, ↓reduceIte, Nat.reduceEqDiff, Nat.reduceAdd, Nat.reduceMul, Nat.reduceSub, Int.reduceToNat, Nat.reduceBEq, List.size_toArray, List.length_cons, List.length_nil, Bool.false_and, Bool.true_and, Bool.or_false, Bool.false_or, Bool.and_false, Bool.and_true, s7], by simp (disch := first | (simp only [go_sem, Bool.and_self, eq_self]; done) | omega | (simp only [List.length_cons, List.length_nil]; omega)) only [go_sem, ↓reduceIte, Nat.reduceEqDiff, Nat.reduceAdd, Nat.reduceMul, Nat.reduceSub, Int.reduceToNat, Nat.reduceBEq, List.size_toArray, List.length_cons, List.length_nil, Bool.false_and, Bool.true_and, Bool.or_false, Bool.false_or, Bool.and_false, Bool.and_true, s8], by simp (disch := first | (simp only [go_sem, Bool.and_self, eq_self]; done) | omega | (simp only [List.length_cons, List.length_nil]; omega)) only [go_sem, ↓reduceIte, Nat.reduceEqDiff, Nat.reduceAdd, Nat.reduceMul, Nat.reduceSub, Int.reduceToNat, Nat.reduceBEq, List.size_toArray, List.length_cons, List.length_nil, Bool.false_and, Bool.true_and, Bool.or_false, Bool.false_or, Bool.and_false, Bool.and_true, s10], by simp (disch := first | (simp only [go_sem, Bool.and_self, eq_self]; done) | omega | (simp only [List.length_cons, List.length_nil]; omega)) only [go_sem, ↓reduceIte, Nat.reduceEqDiff, Nat.reduceAdd, Nat.reduceMul, Nat.reduceSub, Int.reduceToNat, Nat.reduceBEq, List.size_toArray, List.length_cons, List.length_nil, Bool.false_and, Bool.true_and, Bool.or_false, Bool.false_or, Bool.and_false, Bool.and_true, s9], rfl, decide (modI (nth (nth p i) j) i = c), by simp (disch := first | (simp only [go_sem, Bool.and_self, eq_self]; done) | omega | (simp only [List.length_cons, List.length_nil]; omega)) only [go_sem, ↓reduceIte, Nat.reduceEqDiff, Nat.reduceAdd, Nat.reduceMul, Nat.reduceSub, Int.reduceToNat, Nat.reduceBEq, List.size_toArray, List.length_cons, List.length_nil, Bool.false_and, Bool.true_and, Bool.or_false, Bool.false_or, Bool.and_false, Bool.and_true]⟩
      rintro st h' ⟨s4, s5, s6, s7, s8, s10, s9, rfl, b, s11⟩
      have klen := fun lim => ox.lenB (e := 3) h' lim
      cases b with
      | false =>
        simp (disch := first | (simp only [go_sem, Bool.and_self, eq_self]; done) | omega | (simp only [List.length_cons, List.length_nil]; omega)) only [go_sem, ↓reduceIte, Nat.reduceEqDiff, Nat.reduceAdd, Nat.reduceMul, Nat.reduceSub, Int.reduceToNat, Nat.reduceBEq, List.size_toArray, List.length_cons, List.length_nil, Bool.false_and, Bool.true_and, Bool.or_false, Bool.false_or, Bool.and_false, Bool.and_true, s4, s5, s6, s7, s8, s10, s11]
        rw [ForK_normal]
        exact ⟨by omega, by simp (disch := first | (simp only [go_sem, Bool.and_self, eq_self]; done) | omega | (simp only [List.length_cons, List.length_nil]; omega)) only [go_sem, ↓reduceIte, Nat.reduceEqDiff, Nat.reduceAdd, Nat.reduceMul, Nat.reduceSub, Int.reduceToNat, Nat.reduceBEq, List.size_toArray, List.length_cons, List.length_nil, Bool.false_and, Bool.true_and, Bool.or_false, Bool.false_or, Bool.and_false, Bool.and_true, s10], by simp (disch := first | (simp only [go_sem, Bool.and_self, eq_self]; done) | omega | (simp only [List.length_cons, List.length_nil]; omega)) only [go_sem, ↓reduceIte, Nat.reduceEqDiff, Nat.reduceAdd, Nat.reduceMul, Nat.reduceSub, Int.reduceToNat, Nat.reduceBEq, List.size_toArray, List.length_cons, List.length_nil, Bool.false_and, Bool.true_and, Bool.or_false, Bool.false_or, Bool.and_false, Bool.and_true, s4], by simp (disch := first | (simp only [go_sem, Bool.and_self, eq_self]; done) | omega | (simp only [List.length_cons, List.length_nil]; omega)) only [go_sem, ↓reduceIte, Nat.reduceEqDiff, Nat.reduceAdd, Nat.reduceMul, Nat.reduceSub, Int.reduceToNat, Nat.reduceBEq, List.size_toArray, List.length_cons, List.length_nil, Bool.false_and, Bool.true_and, Bool.or_false, Bool.false_or, Bool.and_false, Bool.and_true, s5], by simp (disch := first | (simp only [go_sem, Bool.and_self, eq_self]; done) | omega | (simp only [List.length_cons, List.length_nil]; omega)) only [go_sem, ↓reduceIte, Nat.reduceEqDiff, Nat.reduceAdd, Nat.reduceMul, Nat.reduceSub, Int.reduceToNat, Nat.reduceBEq, List.size_toArray, List.length_cons, List.length_nil, Bool.false_and, Bool.true_and, Bool.or_false, Bool.false_or, Bool.and_false, Bool.and_true, s6], by simp (disch := first | (simp only [go_sem, Bool.and_self, eq_self]; done) | omega | (simp only [List.length_cons, List.length_nil]; omega)) only [go_sem, ↓reduceIte, Nat.reduceEqDiff, Nat.reduceAdd, Nat.reduceMul, Nat.reduceSub, Int.reduceToNat, Nat.reduceBEq, List.size_toArray, List.length_cons, List.length_nil, Bool.false_and, Bool.true_and, Bool.or_false, Bool.false_or, Bool.and_false, Bool.and_true, s7], by simp (disch := first | (simp only [go_sem, Bool.and_self, eq_self]; done) | omega | (simp only [List.length_cons, List.length_nil]; omega)) only [go_sem, ↓reduceIte, Nat.reduceEqDiff, Nat.reduceAdd, Nat.reduceMul, Nat.reduceSub, Int.reduceToNat, Nat.reduceBEq, List.size_toArray, List.length_cons, List.length_nil, Bool.false_and, Bool.true_and, Bool.or_false, Bool.false_or, Bool.and_false, Bool.and_true, s8], F, x, rr, by simp (disch := first | (simp only [go_sem, Bool.and_self, eq_self]; done) | omega | (simp only [List.length_cons, List.length_nil]; omega)) only [go_sem, ↓reduceIte, Nat.reduceEqDiff, Nat.reduceAdd, Nat.reduceMul, Nat.reduceSub, Int.reduceToNat, Nat.reduceBEq, List.size_toArray, List.length_cons, List.length_nil, Bool.false_and, Bool.true_and, Bool.or_false, Bool.false_or, Bool.and_false, Bool.and_true, s9], ox, ar.le (by omega), dv, dw⟩
      | true =>
      by_cases hr3 : rr.length < 3
      case neg =>
        have hr3' : ¬ (rr.length : Int) < 3 := by omega
        simp (disch := first | (simp only [go_sem, Bool.and_self, eq_self]; done) | omega | (simp only [List.length_cons, List.length_nil]; omega)) only [go_sem, ↓reduceIte, Nat.reduceEqDiff, Nat.reduceAdd, Nat.reduceMul, Nat.reduceSub, Int.reduceToNat, Nat.reduceBEq, List.size_toArray, List.length_cons, List.length_nil, Bool.false_and, Bool.true_and, Bool.or_false, Bool.false_or, Bool.and_false, Bool.and_true, s4, s5, s6, s7, s8, s9, s10, s11, klen, hr3']
        rw [ForK_normal]
        exact ⟨by omega, by simp (disch := first | (simp only [go_sem, Bool.and_self, eq_self]; done) | omega | (simp only [List.length_cons, List.length_nil]; omega)) only [go_sem, ↓reduceIte, Nat.reduceEqDiff, Nat.reduceAdd, Nat.reduceMul, Nat.reduceSub, Int.reduceToNat, Nat.reduceBEq, List.size_toArray, List.length_cons, List.length_nil, Bool.false_and, Bool.true_and, Bool.or_false, Bool.false_or, Bool.and_false, Bool.and_true, s10], by simp (disch := first | (simp only [go_sem, Bool.and_self, eq_self]; done) | omega | (simp only [List.length_cons, List.length_nil]; omega)) only [go_sem, ↓reduceIte, Nat.reduceEqDiff, Nat.reduceAdd, Nat.reduceMul, Nat.reduceSub, Int.reduceToNat, Nat.reduceBEq, List.size_toArray, List.length_cons, List.length_nil, Bool.false_and, Bool.true_and, Bool.or_false, Bool.false_or, Bool.and_false, Bool.and_true, s4], by simp (disch := first | (simp only [go_sem, Bool.and_self, eq_self]; done) | omega | (simp only [List.length_cons, List.length_nil]; omega)) only [go_sem, ↓reduceIte, Nat.reduceEqDiff, Nat.reduceAdd, Nat.reduceMul, Nat.reduceSub, Int.reduceToNat, Nat.reduceBEq, List.size_toArray, List.length_cons, List.length_nil, Bool.false_and, Bool.true_and, Bool.or_false, Bool.false_or, Bool.and_false, Bool.and_true, s5], by simp (disch := first | (simp only [go_sem, Bool.and_self, eq_self]; done) | omega | (simp only [List.length_cons, List.length_nil]; omega)) only [go_sem, ↓reduceIte, Nat.reduceEqDiff, Nat.reduceAdd, Nat.reduceMul, Nat.reduceSub, Int.reduceToNat, Nat.reduceBEq, List.size_toArray, List.length_cons, List.length_nil, Bool.false_and, Bool.true_and, Bool.or_false, Bool.false_or, Bool.and_false, Bool.and_true, s6], by simp (disch := first | (simp only [go_sem, Bool.and_self, eq_self]; done) | omega | (simp only [List.length_cons, List.length_nil]; omega)) only [go_sem, ↓reduceIte, Nat.reduceEqDiff, Nat.reduceAdd, Nat.reduceMul, Nat.reduceSub, Int.reduceToNat, Nat.reduceBEq, List.size_toArray, List.length_cons, List.length_nil, Bool.false_and, Bool.true_and, Bool.or_false, Bool.false_or, Bool.and_false, Bool.and_true, s7], by simp (disch := first | (simp only [go_sem, Bool.and_self, eq_self]; done) | omega | (simp only [List.length_cons, List.length_nil]; omega)) only [go_sem, ↓reduceIte, Nat.reduceEqDiff, Nat.reduceAdd, Nat.reduceMul, Nat.reduceSub, Int.reduceToNat, Nat.reduceBEq, List.size_toArray, List.length_cons, List.length_nil, Bool.false_and, Bool.true_and, Bool.or_false, Bool.false_or, Bool.and_false, Bool.and_true, s8], F, x, rr, by simp (disch := first | (simp only [go_sem, Bool.and_self, eq_self]; done) | omega | (simp only [List.length_cons, List.length_nil]; omega)) only [go_sem, ↓reduceIte, Nat.reduceEqDiff, Nat.reduceAdd, Nat.reduceMul, Nat.reduceSub, Int.reduceToNat, Nat.reduceBEq, List.size_toArray, List.length_cons, List.length_nil, Bool.false_and, Bool.true_and, Bool.or_false, Bool.false_or, Bool.and_false, Bool.and_true, s9], ox, ar.le (by omega), dv, dw⟩
      have happ := app_one (P := Try.prog) ox 3 8 (I 0) (c : Int) isz3 ibytes3 izero3 rfl (by omega) (by omega)
      have hbs := bsB_one (P := Try.prog) 3 (I c) (I c) (I 0) h' isz3 izero3 rfl rfl rfl rfl rfl rfl rfl
      have hr3' : (rr.length : Int) < 3 := by omega
      simp (disch := first | (simp only [go_sem, Bool.and_self, eq_self]; done) | omega | (simp only [List.length_cons, List.length_nil]; omega)) only [go_sem, ↓reduceIte, Nat.reduceEqDiff, Nat.reduceAdd, Nat.reduceMul, Nat.reduceSub, Int.reduceToNat, Nat.reduceBEq, List.size_toArray, List.length_cons, List.length_nil, Bool.false_and, Bool.true_and, Bool.or_false, Bool.false_or, Bool.and_false, Bool.and_true, s4, s5, s6, s7, s8, s9, s10, s11, klen, hr3', hbs, happ]
      rw [ForK_normal]
      have hdv := Own.dis (sz := 1) F.ov (rr ++ [(c : Int)]).length 1
      have hdw := Own.dis (sz := 1) F.ow (rr ++ [(c : Int)]).length 1
      refine ⟨by omega, by simp (disch := first | (simp only [go_sem, Bool.and_self, eq_self]; done) | omega | (simp only [List.length_cons, List.length_nil]; omega)) only [go_sem, ↓reduceIte, Nat.reduceEqDiff, Nat.reduceAdd, Nat.reduceMul, Nat.reduceSub, Int.reduceToNat, Nat.reduceBEq, List.size_toArray, List.length_cons, List.length_nil, Bool.false_and, Bool.true_and, Bool.or_false, Bool.false_or, Bool.and_false, Bool.and_true, s10], by simp (disch := first | (simp only [go_sem, Bool.and_self, eq_self]; done) | omega | (simp only [List.length_cons, List.length_nil]; omega)) only [go_sem, ↓reduceIte, Nat.reduceEqDiff, Nat.reduceAdd, Nat.reduceMul, Nat.reduceSub, Int.reduceToNat, Nat.reduceBEq, List.size_toArray, List.length_cons, List.length_nil, Bool.false_and, Bool.true_and, Bool.or_false, Bool.false_or, Bool.and_false, Bool.and_true, s4], by simp (disch := first | (simp only [go_sem, Bool.and_self, eq_self]; done) | omega | (simp only [List.length_cons, List.length_nil]; omega)) only [go_sem, ↓reduceIte, Nat.reduceEqDiff, Nat.reduceAdd, Nat.reduceMul, Nat.reduceSub, Int.reduceToNat, Nat.reduceBEq, List.size_toArray, List.length_cons, List.length_nil, Bool.false_and, Bool.true_and, Bool.or_false, Bool.false_or, Bool.and_false, Bool.and_true, s5], by simp (disch := first | (simp only [go_sem, Bool.and_self, eq_self]; done) | omega | (simp only [List.length_cons, List.length_nil]; omega)) only [go_sem, ↓reduceIte, Nat.reduceEqDiff, Nat.reduceAdd, Nat.reduceMul, Nat.reduceSub, Int.reduceToNat, Nat.reduceBEq, List.size_toArray, List.length_cons, List.length_nil, Bool.false_and, Bool.true_and, Bool.or_false, Bool.false_or, Bool.and_false, Bool.and_true, s6], by simp (disch := first | (simp only [go_sem, Bool.and_self, eq_self]; done) | omega | (simp only [List.length_cons, List.length_nil]; omega)) only [go_sem, ↓reduceIte, Nat.reduceEqDiff, Nat.reduceAdd, Nat.reduceMul, Nat.reduceSub, Int.reduceToNat, Nat.reduceBEq, List.size_toArray, List.length_cons, List.length_nil, Bool.false_and, Bool.true_and, Bool.or_false, Bool.false_or, Bool.and_false, Bool.and_true, s7], by simp (disch := first | (simp only [go_sem, Bool.and_self, eq_self]; done) | omega | (simp only [List.length_cons, List.length_nil]; omega)) only [go_sem, ↓reduceIte, Nat.reduceEqDiff, Nat.reduceAdd, Nat.reduceMul, Nat.reduceSub, Int.reduceToNat, Nat.reduceBEq, List.size_toArray, List.length_cons, List.length_nil, Bool.false_and, Bool.true_and, Bool.or_false, Bool.false_or, Bool.and_false, Bool.and_true, s8], F.mono (by rw [appH_nx]; omega) ox (fun b hb hne => appH_bl _ _ _ b hb hne) dv dw, _, rr ++ [(c : Int)], by simp (disch := first | (simp only [go_sem, Bool.and_self, eq_self]; done) | omega | (simp only [List.length_cons, List.length_nil]; omega)) only [go_sem, ↓reduceIte, Nat.reduceEqDiff, Nat.reduceAdd, Nat.reduceMul, Nat.reduceSub, Int.reduceToNat, Nat.reduceBEq, List.size_toArray, List.length_cons, List.length_nil, Bool.false_and, Bool.true_and, Bool.or_false, Bool.false_or, Bool.and_false, Bool.and_true], Own.app _ _ _, ?_, hdv, hdw⟩
      have := ar.snoc (by omega) hr3
      simpa using this
    rintro st h ⟨s4, s5, s6, s7, s8, F, x, rr, s9, ox, ar, dv, dw⟩
    have klen := fun h lim => ox.lenB (e := 3) h lim
    have hrl := ar.len
    have esh := fun t => shl_one (P := Try.prog) t rr.length (by omega)
    have hN : 2 ^ rr.length ≤ 8 := Nat.pow_le_pow_right (n := 2) (by decide) hrl
    obtain ⟨N, hNe⟩ : ∃ N, N = 2 ^ rr.length := ⟨_, rfl⟩
    rw [← hNe] at esh hN
    have hmk := fun h => makeB_int (P := Try.prog) (h := h) 3 (N : Int) isz3 ibytes3 izero3 (by omega) (by omega)
    have hxc := own_cell ox
    simp (disch := first | (simp only [go_sem, Bool.and_self, eq_self]; done) | omega | (simp only [List.length_cons, List.length_nil]; omega)) only [go_sem, ↓reduceIte, Nat.reduceEqDiff, Nat.reduceAdd, Nat.reduceMul, Nat.reduceSub, Int.reduceToNat, Nat.reduceBEq, List.size_toArray, List.length_cons, List.length_nil, Bool.false_and, Bool.true_and, Bool.or_false, Bool.false_or, Bool.and_false, Bool.and_true, s4, s5, s6, s7, s8, s9, klen, esh, hmk, Int.toNat_natCast]
    have ydv : Dis (.sl h.nx 0 N 1) v := F.ov.dis N 1
    have ydw : Dis (.sl h.nx 0 N 1) w := F.ow.dis N 1
    have ydx : Dis (.sl h.nx 0 N 1) x := ox.dis N 1
    have hnx4 := F.nx
    obtain ⟨id, hid⟩ : ∃ id, id = h.nx := ⟨_, rfl⟩
    rw [← hid] at ydv ydw ydx
    refine WP_cut (fun st h => st 4 = .ptr 1 0 ∧ st 5 = .ptr 2 0 ∧ st 6 = I k ∧ st 7 = .ptr 3 0 ∧ st 8 = I i ∧ st 9 = x ∧ st 13 = .sl id 0 N 1 ∧ TF pv tv P T v w h ∧ Own (e1 I) 1 h x rr ∧ ∃ ts : List Int, ts.length = N ∧ id < h.nx ∧ h.bl id = some (.cells false true (ts.flatMap (e1 I))) ∧ ∀ j, j < N → 0 ≤ nth ts j ∧ nth ts j ≤ 16) ?_ ?_
    · refine WP_for 14 N (fun n st h => st 4 = .ptr 1 0 ∧ st 5 = .ptr 2 0 ∧ st 6 = I k ∧ st 7 = .ptr 3 0 ∧ st 8 = I i ∧ st 9 = x ∧ st 13 = .sl id 0 N 1 ∧ TF pv tv P T v w h ∧ Own (e1 I) 1 h x rr ∧ ∃ ts : List Int, ts.length = N ∧ id < h.nx ∧ h.bl id = some (.cells false true (ts.flatMap (e1 I))) ∧ ∀ j, j < n → 0 ≤ nth ts j ∧ nth ts j ≤ 16) (by simp (disch := first | (simp only [go_sem, Bool.and_self, eq_self]; done) | omega | (simp only [List.length_cons, List.length_nil]; omega)) only [go_sem, ↓reduceIte, Nat.reduceEqDiff, Nat.reduceAdd, Nat.reduceMul, Nat.reduceSub, Int.reduceToNat, Nat.reduceBEq, List.size_toArray, List.length_cons, List.length_nil, Bool.false_and, Bool.true_and, Bool.or_false, Bool.false_or, Bool.and_false, Bool.and_true]) ⟨by simp (disch := first | (simp only [go_sem, Bool.and_self, eq_self]; done) | omega | (simp only [List.length_cons, List.length_nil]; omega)) only [go_sem, ↓reduceIte, Nat.reduceEqDiff, Nat.reduceAdd, Nat.reduceMul, Nat.reduceSub, Int.reduceToNat, Nat.reduceBEq, List.size_toArray, List.length_cons, List.length_nil, Bool.false_and, Bool.true_and, Bool.or_false, Bool.false_or, Bool.and_false, Bool.and_true, s4, s5, s6, s7, s8], by simp (disch := first | (simp only [go_sem, Bool.and_self, eq_self]; done) | omega | (simp only [List.length_cons, List.length_nil]; omega)) only [go_sem, ↓reduceIte, Nat.reduceEqDiff, Nat.reduceAdd, Nat.reduceMul, Nat.reduceSub, Int.reduceToNat, Nat.reduceBEq, List.size_toArray, List.length_cons, List.length_nil, Bool.false_and, Bool.true_and, Bool.or_false, Bool.false_or, Bool.and_false, Bool.and_true, s4, s5, s6, s7, s8], by simp (disch := first | (simp only [go_sem, Bool.and_self, eq_self]; done) | omega | (simp only [List.length_cons, List.length_nil]; omega)) only [go_sem, ↓reduceIte, Nat.reduceEqDiff, Nat.reduceAdd, Nat.reduceMul, Nat.reduceSub, Int.reduceToNat, Nat.reduceBEq, List.size_toArray, List.length_cons, List.length_nil, Bool.false_and, Bool.true_and, Bool.or_false, Bool.false_or, Bool.and_false, Bool.and_true, s4, s5, s6, s7, s8], by simp (disch := first | (simp only [go_sem, Bool.and_self, eq_self]; done) | omega | (simp only [List.length_cons, List.length_nil]; omega)) only [go_sem, ↓reduceIte, Nat.reduceEqDiff, Nat.reduceAdd, Nat.reduceMul, Nat.reduceSub, Int.reduceToNat, Nat.reduceBEq, List.size_toArray, List.length_cons, List.length_nil, Bool.false_and, Bool.true_and, Bool.or_false, Bool.false_or, Bool.and_false, Bool.and_true, s4, s5, s6, s7, s8], by simp (disch := first | (simp only [go_sem, Bool.and_self, eq_self]; done) | omega | (simp only [List.length_cons, List.length_nil]; omega)) only [go_sem, ↓reduceIte, Nat.reduceEqDiff, Nat.reduceAdd, Nat.reduceMul, Nat.reduceSub, Int.reduceToNat, Nat.reduceBEq, List.size_toArray, List.length_cons, List.length_nil, Bool.false_and, Bool.true_and, Bool.or_false, Bool.false_or, Bool.and_false, Bool.and_true, s4, s5, s6, s7, s8], by simp (disch := first | (simp only [go_sem, Bool.and_self, eq_self]; done) | omega | (simp only [List.length_cons, List.length_nil]; omega)) only [go_sem, ↓reduceIte, Nat.reduceEqDiff, Nat.reduceAdd, Nat.reduceMul, Nat.reduceSub, Int.reduceToNat, Nat.reduceBEq, List.size_toArray, List.length_cons, List.length_nil, Bool.false_and, Bool.true_and, Bool.or_false, Bool.false_or, Bool.and_false, Bool.and_true, s9], by simp (disch := first | (simp only [go_sem, Bool.and_self, eq_self]; done) | omega | (simp only [List.length_cons, List.length_nil]; omega)) only [go_sem, ↓reduceIte, Nat.reduceEqDiff, Nat.reduceAdd, Nat.reduceMul, Nat.reduceSub, Int.reduceToNat, Nat.reduceBEq, List.size_toArray, List.length_cons, List.length_nil, Bool.false_and, Bool.true_and, Bool.or_false, Bool.false_or, Bool.and_false, Bool.and_true, hid], F.alloc _, ?_, List.replicate N 0, by simp, by simp (disch := first | (simp only [go_sem, Bool.and_self, eq_self]; done) | omega | (simp only [List.length_cons, List.length_nil]; omega)) only [go_sem, ↓reduceIte, Nat.reduceEqDiff, Nat.reduceAdd, Nat.reduceMul, Nat.reduceSub, Int.reduceToNat, Nat.reduceBEq, List.size_toArray, List.length_cons, List.length_nil, Bool.false_and, Bool.true_and, Bool.or_false, Bool.false_or, Bool.and_false, Bool.and_true, hid]; omega, by simp (disch := first | (simp only [go_sem, Bool.and_self, eq_self]; done) | omega | (simp only [List.length_cons, List.length_nil]; omega)) only [go_sem, ↓reduceIte, Nat.reduceEqDiff, Nat.reduceAdd, Nat.reduceMul, Nat.reduceSub, Int.reduceToNat, Nat.reduceBEq, List.size_toArray, List.length_cons, List.length_nil, Bool.false_and, Bool.true_and, Bool.or_false, Bool.false_or, Bool.and_false, Bool.and_true, hid], by omega⟩ ?_
      · exact ox.mono (by simp [Hp.alloc]) fun i hi => by simp [Hp.alloc, show ¬ i = h.nx by omega]
      rintro n st h hn s14 ⟨s4, s5, s6, s7, s8, s9, s13, F, ox, ts, tsl, hidn, bid, hts⟩
      by_cases hnN : n < N
      case neg =>
        have hnn : N = n := by omega
        simp (disch := first | (simp only [go_sem, Bool.and_self, eq_self]; done) | omega | (simp only [List.length_cons, List.length_nil]; omega)) only [go_sem, ↓reduceIte, Nat.reduceEqDiff, Nat.reduceAdd, Nat.reduceMul, Nat.reduceSub, Int.reduceToNat, Nat.reduceBEq, List.size_toArray, List.length_cons, List.length_nil, Bool.false_and, Bool.true_and, Bool.or_false, Bool.false_or, Bool.and_false, Bool.and_true, s4, s5, s6, s7, s8, s13, s14, hnN]
        exact ⟨s9, F, ox, ts, tsl, hidn, bid, fun j hj => hts j (by omega)⟩
      have b2 := F.b2
      have i2 : ¬ 2 = id := fun h => by rw [← h] at bid; rw [b2] at bid; cases bid
      have put1 : ∀ (h : Hp) (ts : List Int) (b : Blk), TF pv tv P T v w h → Own (e1 I) 1 h x rr → id < h.nx → h.bl id = some (.cells false true (ts.flatMap (e1 I))) → ts.length = N → TF pv tv P T v w (h.put id (some b)) ∧ Own (e1 I) 1 (h.put id (some b)) x rr := fun h ts b F ox hidn bid tsl => by
        have hb : ∀ i, i < h.nx → (∀ id' off n sz', AV.sl id 0 N 1 = .sl id' off n sz' → i ≠ id') → (h.put id (some b)).bl i = h.bl i := fun i _ hne => by simp [Hp.put, hne _ _ _ _ rfl]
        have oy : Own (e1 I) 1 h (.sl id 0 N 1) ts := .inr ⟨id, by rw [tsl], hidn, bid⟩
        exact ⟨F.mono (Nat.le_refl _) oy hb ydv ydw, Own.keepX ox (Nat.le_refl _) hb ydx⟩
      have fin : ∀ (u : Int), 0 ≤ u ∧ u ≤ 16 → (ts.set n u).length = N ∧ ∀ j, j < n + 1 → 0 ≤ nth (ts.set n u) j ∧ nth (ts.set n u) j ≤ 16 := fun u hu => ⟨by simpa using tsl, fun j hj => by
        rw [nth_set _ _ _ _ (by omega)]
        split
        · exact hu
        · exact hts j (by omega)⟩
      have hset : n < ts.length := by omega
      obtain ⟨F8, o8⟩ := put1 h ts (.cells false true ((ts.set n 8).flatMap (e1 I))) F ox hidn bid tsl
      have f8 := fin 8 (by omega)
      by_cases hit : i < t.length
      case neg =>
        simp (disch := first | (simp only [go_sem, Bool.and_self, eq_self]; done) | omega | (simp only [List.length_cons, List.length_nil]; omega)) only [go_sem, ↓reduceIte, Nat.reduceEqDiff, Nat.reduceAdd, Nat.reduceMul, Nat.reduceSub, Int.reduceToNat, Nat.reduceBEq, List.size_toArray, List.length_cons, List.length_nil, Bool.false_and, Bool.true_and, Bool.or_false, Bool.false_or, Bool.and_false, Bool.and_true, s4, s5, s6, s7, s8, s13, s14, hnN, hset, bid, b2, klt, hit, i2]
        rw [ForK_normal]
        exact ⟨by omega, by simp (disch := first | (simp only [go_sem, Bool.and_self, eq_self]; done) | omega | (simp only [List.length_cons, List.length_nil]; omega)) only [go_sem, ↓reduceIte, Nat.reduceEqDiff, Nat.reduceAdd, Nat.reduceMul, Nat.reduceSub, Int.reduceToNat, Nat.reduceBEq, List.size_toArray, List.length_cons, List.length_nil, Bool.false_and, Bool.true_and, Bool.or_false, Bool.false_or, Bool.and_false, Bool.and_true, s14], by simp (disch := first | (simp only [go_sem, Bool.and_self, eq_self]; done) | omega | (simp only [List.length_cons, List.length_nil]; omega)) only [go_sem, ↓reduceIte, Nat.reduceEqDiff, Nat.reduceAdd, Nat.reduceMul, Nat.reduceSub, Int.reduceToNat, Nat.reduceBEq, List.size_toArray, List.length_cons, List.length_nil, Bool.false_and, Bool.true_and, Bool.or_false, Bool.false_or, Bool.and_false, Bool.and_true, s4], by simp (disch := first | (simp only [go_sem, Bool.and_self, eq_self]; done) | omega | (simp only [List.length_cons, List.length_nil]; omega)) only [go_sem, ↓reduceIte, Nat.reduceEqDiff, Nat.reduceAdd, Nat.reduceMul, Nat.reduceSub, Int.reduceToNat, Nat.reduceBEq, List.size_toArray, List.length_cons, List.length_nil, Bool.false_and, Bool.true_and, Bool.or_false, Bool.false_or, Bool.and_false, Bool.and_true, s5], by simp (disch := first | (simp only [go_sem, Bool.and_self, eq_self]; done) | omega | (simp only [List.length_cons, List.length_nil]; omega)) only [go_sem, ↓reduceIte, Nat.reduceEqDiff, Nat.reduceAdd, Nat.reduceMul, Nat.reduceSub, Int.reduceToNat, Nat.reduceBEq, List.size_toArray, List.length_cons, List.length_nil, Bool.false_and, Bool.true_and, Bool.or_false, Bool.false_or, Bool.and_false, Bool.and_true, s6], by simp (disch := first | (simp only [go_sem, Bool.and_self, eq_self]; done) | omega | (simp only [List.length_cons, List.length_nil]; omega)) only [go_sem, ↓reduceIte, Nat.reduceEqDiff, Nat.reduceAdd, Nat.reduceMul, Nat.reduceSub, Int.reduceToNat, Nat.reduceBEq, List.size_toArray, List.length_cons, List.length_nil, Bool.false_and, Bool.true_and, Bool.or_false, Bool.false_or, Bool.and_false, Bool.and_true, s7], by simp (disch := first | (simp only [go_sem, Bool.and_self, eq_self]; done) | omega | (simp only [List.length_cons, List.length_nil]; omega)) only [go_sem, ↓reduceIte, Nat.reduceEqDiff, Nat.reduceAdd, Nat.reduceMul, Nat.reduceSub, Int.reduceToNat, Nat.reduceBEq, List.size_toArray, List.length_cons, List.length_nil, Bool.false_and, Bool.true_and, Bool.or_false, Bool.false_or, Bool.and_false, Bool.and_true, s8], by simp (disch := first | (simp only [go_sem, Bool.and_self, eq_self]; done) | omega | (simp only [List.length_cons, List.length_nil]; omega)) only [go_sem, ↓reduceIte, Nat.reduceEqDiff, Nat.reduceAdd, Nat.reduceMul, Nat.reduceSub, Int.reduceToNat, Nat.reduceBEq, List.size_toArray, List.length_cons, List.length_nil, Bool.false_and, Bool.true_and, Bool.or_false, Bool.false_or, Bool.and_false, Bool.and_true, s9], by simp (disch := first | (simp only [go_sem, Bool.and_self, eq_self]; done) | omega | (simp only [List.length_cons, List.length_nil]; omega)) only [go_sem, ↓reduceIte, Nat.reduceEqDiff, Nat.reduceAdd, Nat.reduceMul, Nat.reduceSub, Int.reduceToNat, Nat.reduceBEq, List.size_toArray, List.length_cons, List.length_nil, Bool.false_and, Bool.true_and, Bool.or_false, Bool.false_or, Bool.and_false, Bool.and_true, s13], F8, o8, ts.set n 8, f8.1, hidn, by simp (disch := first | (simp only [go_sem, Bool.and_self, eq_self]; done) | omega | (simp only [List.length_cons, List.length_nil]; omega)) only [go_sem, ↓reduceIte, Nat.reduceEqDiff, Nat.reduceAdd, Nat.reduceMul, Nat.reduceSub, Int.reduceToNat, Nat.reduceBEq, List.size_toArray, List.length_cons, List.length_nil, Bool.false_and, Bool.true_and, Bool.or_false, Bool.false_or, Bool.and_false, Bool.and_true], f8.2⟩
      have hte := ltv.some hit
      rw [hte] at b2
      have hml := okt.2 _ (nth_mem hit)
      by_cases hnt : n < (nth t i).length
      case neg =>
        simp (disch := first | (simp only [go_sem, Bool.and_self, eq_self]; done) | omega | (simp only [List.length_cons, List.length_nil]; omega)) only [go_sem, ↓reduceIte, Nat.reduceEqDiff, Nat.reduceAdd, Nat.reduceMul, Nat.reduceSub, Int.reduceToNat, Nat.reduceBEq, List.size_toArray, List.length_cons, List.length_nil, Bool.false_and, Bool.true_and, Bool.or_false, Bool.false_or, Bool.and_false, Bool.and_true, s4, s5, s6, s7, s8, s13, s14, hnN, hset, bid, b2, hit, hnt, i2]
        rw [ForK_normal]
        exact ⟨by omega, by simp (disch := first | (simp only [go_sem, Bool.and_self, eq_self]; done) | omega | (simp only [List.length_cons, List.length_nil]; omega)) only [go_sem, ↓reduceIte, Nat.reduceEqDiff, Nat.reduceAdd, Nat.reduceMul, Nat.reduceSub, Int.reduceToNat, Nat.reduceBEq, List.size_toArray, List.length_cons, List.length_nil, Bool.false_and, Bool.true_and, Bool.or_false, Bool.false_or, Bool.and_false, Bool.and_true, s14], by simp (disch := first | (simp only [go_sem, Bool.and_self, eq_self]; done) | omega | (simp only [List.length_cons, List.length_nil]; omega)) only [go_sem, ↓reduceIte, Nat.reduceEqDiff, Nat.reduceAdd, Nat.reduceMul, Nat.reduceSub, Int.reduceToNat, Nat.reduceBEq, List.size_toArray, List.length_cons, List.length_nil, Bool.false_and, Bool.true_and, Bool.or_false, Bool.false_or, Bool.and_false, Bool.and_true, s4], by simp (disch := first | (simp only [go_sem, Bool.and_self, eq_self]; done) | omega | (simp only [List.length_cons, List.length_nil]; omega)) only [go_sem, ↓reduceIte, Nat.reduceEqDiff, Nat.reduceAdd, Nat.reduceMul, Nat.reduceSub, Int.reduceToNat, Nat.reduceBEq, List.size_toArray, List.length_cons, List.length_nil, Bool.false_and, Bool.true_and, Bool.or_false, Bool.false_or, Bool.and_false, Bool.and_true, s5], by simp (disch := first | (simp only [go_sem, Bool.and_self, eq_self]; done) | omega | (simp only [List.length_cons, List.length_nil]; omega)) only [go_sem, ↓reduceIte, Nat.reduceEqDiff, Nat.reduceAdd, Nat.reduceMul, Nat.reduceSub, Int.reduceToNat, Nat.reduceBEq, List.size_toArray, List.length_cons, List.length_nil, Bool.false_and, Bool.true_and, Bool.or_false, Bool.false_or, Bool.and_false, Bool.and_true, s6], by simp (disch := first | (simp only [go_sem, Bool.and_self, eq_self]; done) | omega | (simp only [List.length_cons, List.length_nil]; omega)) only [go_sem, ↓reduceIte, Nat.reduceEqDiff, Nat.reduceAdd, Nat.reduceMul, Nat.reduceSub, Int.reduceToNat, Nat.reduceBEq, List.size_toArray, List.length_cons, List.length_nil, Bool.false_and, Bool.true_and, Bool.or_false, Bool.false_or, Bool.and_false, Bool.and_true, s7], by simp (disch := first | (simp only [go_sem, Bool.and_self, eq_self]; done) | omega | (simp only [List.length_cons, List.length_nil]; omega)) only [go_sem, ↓reduceIte, Nat.reduceEqDiff, Nat.reduceAdd, Nat.reduceMul, Nat.reduceSub, Int.reduceToNat, Nat.reduceBEq, List.size_toArray, List.length_cons, List.length_nil, Bool.false_and, Bool.true_and, Bool.or_false, Bool.false_or, Bool.and_false, Bool.and_true, s8], by simp (disch := first | (simp only [go_sem, Bool.and_self, eq_self]; done) | omega | (simp only [List.length_cons, List.length_nil]; omega)) only [go_sem, ↓reduceIte, Nat.reduceEqDiff, Nat.reduceAdd, Nat.reduceMul, Nat.reduceSub, Int.reduceToNat, Nat.reduceBEq, List.size_toArray, List.length_cons, List.length_nil, Bool.false_and, Bool.true_and, Bool.or_false, Bool.false_or, Bool.and_false, Bool.and_true, s9], by simp (disch := first | (simp only [go_sem, Bool.and_self, eq_self]; done) | omega | (simp only [List.length_cons, List.length_nil]; omega)) only [go_sem, ↓reduceIte, Nat.reduceEqDiff, Nat.reduceAdd, Nat.reduceMul, Nat.reduceSub, Int.reduceToNat, Nat.reduceBEq, List.size_toArray, List.length_cons, List.length_nil, Bool.false_and, Bool.true_and, Bool.or_false, Bool.false_or, Bool.and_false, Bool.and_true, s13], F8, o8, ts.set n 8, f8.1, hidn, by simp (disch := first | (simp only [go_sem, Bool.and_self, eq_self]; done) | omega | (simp only [List.length_cons, List.length_nil]; omega)) only [go_sem, ↓reduceIte, Nat.reduceEqDiff, Nat.reduceAdd, Nat.reduceMul, Nat.reduceSub, Int.reduceToNat, Nat.reduceBEq, List.size_toArray, List.length_cons, List.length_nil, Bool.false_and, Bool.true_and, Bool.or_false, Bool.false_or, Bool.and_false, Bool.and_true], f8.2⟩
      have k2 := fun h h'' K => k31 (h := h) (h' := h'') (K := K) (nth (nth t i) n) 17 (by decide)
      have hmo := modI_bounds (nth (nth t i) n) (n := 17) (by decide)
      have hset2 : n < (ts.set n 8).length := by omega
      obtain ⟨F9, o9⟩ := put1 (h.put id (some (.cells false true ((ts.set n 8).flatMap (e1 I))))) (ts.set n 8) (.cells false true (((ts.set n 8).set n (modI (nth (nth t i) n) 17)).flatMap (e1 I))) F8 o8 hidn (by simp [Hp.put]) f8.1
      have f9 := fin (modI (nth (nth t i) n) 17) (by omega)
      rw [← show (ts.set n 8).set n (modI (nth (nth t i) n) 17) = ts.set n (modI (nth (nth t i) n) 17) by simp] at f9
      simp (disch := first | (simp only [go_sem, Bool.and_self, eq_self]; done) | omega | (simp only [List.length_cons, List.length_nil]; omega)) only [go_sem, ↓reduceIte, Nat.reduceEqDiff, Nat.reduceAdd, Nat.reduceMul, Nat.reduceSub, Int.reduceToNat, Nat.reduceBEq, List.size_toArray, List.length_cons, List.length_nil, Bool.false_and, Bool.true_and, Bool.or_false, Bool.false_or, Bool.and_false, Bool.and_true, s4, s5, s6, s7, s8, s13, s14, hnN, hset, hset2, bid, b2, hit, hnt, i2, k2]
      rw [ForK_normal]
      exact ⟨by omega, by simp (disch := first | (simp only [go_sem, Bool.and_self, eq_self]; done) | omega | (simp only [List.length_cons, List.length_nil]; omega)) only [go_sem, ↓reduceIte, Nat.reduceEqDiff, Nat.reduceAdd, Nat.reduceMul, Nat.reduceSub, Int.reduceToNat, Nat.reduceBEq, List.size_toArray, List.length_cons, List.length_nil, Bool.false_and, Bool.true_and, Bool.or_false, Bool.false_or, Bool.and_false, Bool.and_true, s14], by simp (disch := first | (simp only [go_sem, Bool.and_self, eq_self]; done) | omega | (simp only [List.length_cons, List.length_nil]; omega)) only [go_sem, ↓reduceIte, Nat.reduceEqDiff, Nat.reduceAdd, Nat.reduceMul, Nat.reduceSub, Int.reduceToNat, Nat.reduceBEq, List.size_toArray, List.length_cons, List.length_nil, Bool.false_and, Bool.true_and, Bool.or_false, Bool.false_or, Bool.and_false, Bool.and_true, s4], by simp (disch := first | (simp only [go_sem, Bool.and_self, eq_self]; done) | omega | (simp only [List.length_cons, List.length_nil]; omega)) only [go_sem, ↓reduceIte, Nat.reduceEqDiff, Nat.reduceAdd, Nat.reduceMul, Nat.reduceSub, Int.reduceToNat, Nat.reduceBEq, List.size_toArray, List.length_cons, List.length_nil, Bool.false_and, Bool.true_and, Bool.or_false, Bool.false_or, Bool.and_false, Bool.and_true, s5], by simp (disch := first | (simp only [go_sem, Bool.and_self, eq_self]; done) | omega | (simp only [List.length_cons, List.length_nil]; omega)) only [go_sem, ↓reduceIte, Nat.reduceEqDiff, Nat.reduceAdd, Nat.reduceMul, Nat.reduceSub, Int.reduceToNat, Nat.reduceBEq, List.size_toArray, List.length_cons, List.length_nil, Bool.false_and, Bool.true_and, Bool.or_false, Bool.false_or, Bool.and_false, Bool.and_true, s6], by simp (disch := first | (simp only [go_sem, Bool.and_self, eq_self]; done) | omega | (simp only [List.length_cons, List.length_nil]; omega)) only [go_sem, ↓reduceIte, Nat.reduceEqDiff, Nat.reduceAdd, Nat.reduceMul, Nat.reduceSub, Int.reduceToNat, Nat.reduceBEq, List.size_toArray, List.length_cons, List.length_nil, Bool.false_and, Bool.true_and, Bool.or_false, Bool.false_or, Bool.and_false, Bool.and_true, s7], by simp (disch := first | (simp only [go_sem, Bool.and_self, eq_self]; done) | omega | (simp only [List.length_cons, List.length_nil]; omega)) only [go_sem, ↓reduceIte, Nat.reduceEqDiff, Nat.reduceAdd, Nat.reduceMul, Nat.reduceSub, Int.reduceToNat, Nat.reduceBEq, List.size_toArray, List.length_cons, List.length_nil, Bool.false_and, Bool.true_and, Bool.or_false, Bool.false_or, Bool.and_false, Bool.and_true, s8], by simp (disch := first | (simp only [go_sem, Bool.and_self, eq_self]; done) | omega | (simp only [List.length_cons, List.length_nil]; omega)) only [go_sem, ↓reduceIte, Nat.reduceEqDiff, Nat.reduceAdd, Nat.reduceMul, Nat.reduceSub, Int.reduceToNat, Nat.reduceBEq, List.size_toArray, List.length_cons, List.length_nil, Bool.false_and, Bool.true_and, Bool.or_false, Bool.false_or, Bool.and_false, Bool.and_true, s9], by simp (disch := first | (simp only [go_sem, Bool.and_self, eq_self]; done) | omega | (simp only [List.length_cons, List.length_nil]; omega)) only [go_sem, ↓reduceIte, Nat.reduceEqDiff, Nat.reduceAdd, Nat.reduceMul, Nat.reduceSub, Int.reduceToNat, Nat.reduceBEq, List.size_toArray, List.length_cons, List.length_nil, Bool.false_and, Bool.true_and, Bool.or_false, Bool.false_or, Bool.and_false, Bool.and_true, s13], F9, o9, _, f9.1, hidn, by simp (disch := first | (simp only [go_sem, Bool.and_self, eq_self]; done) | omega | (simp only [List.length_cons, List.length_nil]; omega)) only [go_sem, ↓reduceIte, Nat.reduceEqDiff, Nat.reduceAdd, Nat.reduceMul, Nat.reduceSub, Int.reduceToNat, Nat.reduceBEq, List.size_toArray, List.length_cons, List.length_nil, Bool.false_and, Bool.true_and, Bool.or_false, Bool.false_or, Bool.and_false, Bool.and_true], f9.2⟩
    rintro st h ⟨s4, s5, s6, s7, s8, s9, s13, F, ox, ts, tsl, hidn, bid, hts⟩
    have oy : Own (e1 I) 1 h (.sl id 0 N 1) ts := .inr ⟨id, by rw [tsl], hidn, bid⟩
    obtain ⟨h1, hs1, hn1, hb1⟩ := sealA_Own ox
    have F1 := F.mono (h' := h1) (by omega) ox (fun b _ hne => hb1 b hne) dv dw
    have oy1 : Own (e1 I) 1 h1 (.sl id 0 N 1) ts := Own.keepX oy (by omega) (fun b _ hne => hb1 b hne) ydx.symm
    have hbs1 := bsB_one (P := Try.prog) 25 x (LI rr) .nil h1 isz25 izero25 rfl rfl rfl hs1 rfl rfl (pure_L _)
    have hap1 := app_one (P := Try.prog) F1.ov 25 24 .nil rr isz25 ibytes25 izero25 rfl (by omega) (by omega)
    have hF1n := F1.nx
    have c1 := (appH_bl h1 v ((P ++ [rr]).flatMap (e1 LI)) 1 (by omega) (own_ne F1.ov F1.b1)).trans F1.b1
    have c2 := (appH_bl h1 v ((P ++ [rr]).flatMap (e1 LI)) 2 (by omega) (own_ne F1.ov F1.b2)).trans F1.b2
    have c3 := (appH_bl h1 v ((P ++ [rr]).flatMap (e1 LI)) 3 (by omega) (own_ne F1.ov F1.b3)).trans F1.b3
    have cn := appH_nx h1 v ((P ++ [rr]).flatMap (e1 LI))
    have oV := Own.app (f := e1 LI) (sz := 1) h1 v (P ++ [rr])
    have ow1 := Own.keep F1.ow F1.d ((P ++ [rr]).flatMap (e1 LI))
    have oy2 := Own.keep oy1 ydv.symm ((P ++ [rr]).flatMap (e1 LI))
    have dVw := Own.dis F1.ow (P ++ [rr]).length 1
    have dVy := Own.dis oy1 (P ++ [rr]).length 1
    generalize appH h1 v ((P ++ [rr]).flatMap (e1 LI)) = G1 at hap1 c1 c2 c3 cn oV ow1 oy2
    generalize appV h1 (P ++ [rr]).length 1 = V at hap1 oV dVw dVy
    have hV := own_cell oV
    have hst1 : storeC G1 3 0 1 (some (.cells false false [v, w])) V.cells = some (.skp, G1.put 3 (some (.cells false false [V, w]))) := store_fst hV
    have oV2 := own_put oV c3 (some (.cells false false [V, w]))
    have ow2 := own_put ow1 c3 (some (.cells false false [V, w]))
    have oy3 := own_put oy2 c3 (some (.cells false false [V, w]))
    have d1 : (G1.put 3 (some (.cells false false [V, w]))).bl 1 = some (.cells false false [.nil, .nil]) := by rw [put_bl, if_neg (by decide)]; exact c1
    have d2 : (G1.put 3 (some (.cells false false [V, w]))).bl 2 = some (.cells false false [pv, tv]) := by rw [put_bl, if_neg (by decide)]; exact c2
    have d3 : (G1.put 3 (some (.cells false false [V, w]))).bl 3 = some (.cells false false [V, w]) := by rw [put_bl, if_pos rfl]
    have dn : (G1.put 3 (some (.cells false false [V, w]))).nx = h1.nx + 1 := cn
    generalize G1.put 3 (some (.cells false false [V, w])) = G2 at hst1 oV2 ow2 oy3 d1 d2 d3 dn
    obtain ⟨h2, hs2, hn2, hb2⟩ := sealA_Own oy3
    have oV3 : Own (e1 LI) 1 h2 V (P ++ [rr]) := Own.keepX oV2 (by omega) (fun b _ hne => hb2 b hne) dVy.symm
    have ow3 : Own (e1 LI) 1 h2 w T := Own.keepX ow2 (by omega) (fun b _ hne => hb2 b hne) ydw
    have g1 := (hb2 1 (own_ne oy3 d1)).trans d1
    have g2 := (hb2 2 (own_ne oy3 d2)).trans d2
    have g3 := (hb2 3 (own_ne oy3 d3)).trans d3
    have hbs2 := bsB_one (P := Try.prog) 25 (.sl id 0 N 1) (LI ts) .nil h2 isz25 izero25 rfl rfl rfl hs2 rfl rfl (pure_L _)
    have hap2 := app_one (P := Try.prog) ow3 25 24 .nil ts isz25 ibytes25 izero25 rfl (by omega) (by omega)
    have k1 := (appH_bl h2 w ((T ++ [ts]).flatMap (e1 LI)) 1 (by omega) (own_ne ow3 g1)).trans g1
    have k2 := (appH_bl h2 w ((T ++ [ts]).flatMap (e1 LI)) 2 (by omega) (own_ne ow3 g2)).trans g2
    have k3 := (appH_bl h2 w ((T ++ [ts]).flatMap (e1 LI)) 3 (by omega) (own_ne ow3 g3)).trans g3
    have kn := appH_nx h2 w ((T ++ [ts]).flatMap (e1 LI))
    have oW := Own.app (f := e1 LI) (sz := 1) h2 w (T ++ [ts])
    have oV4 := Own.keep oV3 dVw.symm ((T ++ [ts]).flatMap (e1 LI))
    have dWV := Own.dis oV3 (T ++ [ts]).length 1
    generalize appH h2 w ((T ++ [ts]).flatMap (e1 LI)) = G3 at hap2 k1 k2 k3 kn oW oV4
    generalize appV h2 (T ++ [ts]).length 1 = U at hap2 oW dWV
    have hU := own_cell oW
    have hst2 : storeC G3 3 1 1 (some (.cells false false [V, w])) U.cells = some (.skp, G3.put 3 (some (.cells false false [V, U]))) := store_snd hU
    have b3 := F.b3
    have hF3 : 3 < h.nx := by have := F.nx; omega
    simp (disch := first | (simp only [go_sem, Bool.and_self, eq_self]; done) | omega | (simp only [List.length_cons, List.length_nil]; omega)) only [go_sem, ↓reduceIte, Nat.reduceEqDiff, Nat.reduceAdd, Nat.reduceMul, Nat.reduceSub, Int.reduceToNat, Nat.reduceBEq, List.size_toArray, List.length_cons, List.length_nil, Bool.false_and, Bool.true_and, Bool.or_false, Bool.false_or, Bool.and_false, Bool.and_true, s4, s5, s6, s7, s8, s9, s13, b3, hF3, hbs1, hap1, c3, hst1, d3, hbs2, hap2, k3, hst2]
    rw [ForK_normal]
    refine ⟨hlt, by simp (disch := first | (simp only [go_sem, Bool.and_self, eq_self]; done) | omega | (simp only [List.length_cons, List.length_nil]; omega)) only [go_sem, ↓reduceIte, Nat.reduceEqDiff, Nat.reduceAdd, Nat.reduceMul, Nat.reduceSub, Int.reduceToNat, Nat.reduceBEq, List.size_toArray, List.length_cons, List.length_nil, Bool.false_and, Bool.true_and, Bool.or_false, Bool.false_or, Bool.and_false, Bool.and_true, s8], by simp (disch := first | (simp only [go_sem, Bool.and_self, eq_self]; done) | omega | (simp only [List.length_cons, List.length_nil]; omega)) only [go_sem, ↓reduceIte, Nat.reduceEqDiff, Nat.reduceAdd, Nat.reduceMul, Nat.reduceSub, Int.reduceToNat, Nat.reduceBEq, List.size_toArray, List.length_cons, List.length_nil, Bool.false_and, Bool.true_and, Bool.or_false, Bool.false_or, Bool.and_false, Bool.and_true, s4], by simp (disch := first | (simp only [go_sem, Bool.and_self, eq_self]; done) | omega | (simp only [List.length_cons, List.length_nil]; omega)) only [go_sem, ↓reduceIte, Nat.reduceEqDiff, Nat.reduceAdd, Nat.reduceMul, Nat.reduceSub, Int.reduceToNat, Nat.reduceBEq, List.size_toArray, List.length_cons, List.length_nil, Bool.false_and, Bool.true_and, Bool.or_false, Bool.false_or, Bool.and_false, Bool.and_true, s5], by simp (disch := first | (simp only [go_sem, Bool.and_self, eq_self]; done) | omega | (simp only [List.length_cons, List.length_nil]; omega)) only [go_sem, ↓reduceIte, Nat.reduceEqDiff, Nat.reduceAdd, Nat.reduceMul, Nat.reduceSub, Int.reduceToNat, Nat.reduceBEq, List.size_toArray, List.length_cons, List.length_nil, Bool.false_and, Bool.true_and, Bool.or_false, Bool.false_or, Bool.and_false, Bool.and_true, s6], by simp (disch := first | (simp only [go_sem, Bool.and_self, eq_self]; done) | omega | (simp only [List.length_cons, List.length_nil]; omega)) only [go_sem, ↓reduceIte, Nat.reduceEqDiff, Nat.reduceAdd, Nat.reduceMul, Nat.reduceSub, Int.reduceToNat, Nat.reduceBEq, List.size_toArray, List.length_cons, List.length_nil, Bool.false_and, Bool.true_and, Bool.or_false, Bool.false_or, Bool.and_false, Bool.and_true, s7], P ++ [rr], T ++ [ts], V, U, ⟨?_, ?_, ?_, by simp (disch := first | (simp only [go_sem, Bool.and_self, eq_self]; done) | omega | (simp only [List.length_cons, List.length_nil]; omega)) only [go_sem, ↓reduceIte, Nat.reduceEqDiff, Nat.reduceAdd, Nat.reduceMul, Nat.reduceSub, Int.reduceToNat, Nat.reduceBEq, List.size_toArray, List.length_cons, List.length_nil, Bool.false_and, Bool.true_and, Bool.or_false, Bool.false_or, Bool.and_false, Bool.and_true], own_put oV4 k3 _, own_put oW k3 _, dWV.symm⟩, by simp [hPl], by simp [hTl], fun j hj => ?_⟩
    · rw [put_nx, kn]; omega
    · rw [put_bl, if_neg (by decide)]; exact k1
    · rw [put_bl, if_neg (by decide)]; exact k2
    · rcases Nat.lt_or_ge j i with h | h
      · rw [nth_append_left _ _ _ (by omega), nth_append_left _ _ _ (by omega)]; exact hok j h
      · have hji : j = i := by omega
        have e1' : nth (P ++ [rr]) j = rr := by rw [nth, List.getElem?_append_right (by omega), hPl, hji]; simp
        have e2' : nth (T ++ [ts]) j = ts := by rw [nth, List.getElem?_append_right (by omega), hTl, hji]; simp
        rw [e1', e2', hji]
        exact ar.ok (by rw [tsl, hNe]) (fun j hj => hts j (by omega))
  · rintro st h ⟨s4, s5, s6, s7, P, T, v, w, F, hPl, hTl, hok⟩
    have hk1 : 1 ≤ k := by omega
    have hv := own_cell F.ov
    have hw := own_cell F.ow
    have b1 := F.b1
    have b3 := F.b3
    have o1 := own_put F.ov b1 (some (.cells false false [v, w]))
    have o2 := own_put F.ow b1 (some (.cells false false [v, w]))
    have hex := export_net 24 o1 o2 F.d (fun e => by rw [e] at hPl; simp at hPl; omega) (fun e => by rw [e] at hTl; simp at hTl; omega)
    rw [netV_cons (fun e => by rw [e.1] at hPl; simp at hPl; omega)] at hex
    simp (disch := first | (simp only [go_sem, Bool.and_self, eq_self]; done) | omega | (simp only [List.length_cons, List.length_nil]; omega)) only [go_sem, ↓reduceIte, Nat.reduceEqDiff, Nat.reduceAdd, Nat.reduceMul, Nat.reduceSub, Int.reduceToNat, Nat.reduceBEq, List.size_toArray, List.length_cons, List.length_nil, Bool.false_and, Bool.true_and, Bool.or_false, Bool.false_or, Bool.and_false, Bool.and_true, s4, s5, s6, s7, b1, b3, hv, hw]
    refine ⟨_, hex, P, T, ?_, by omega, rfl⟩
    simp only [netB, Bool.and_eq_true, decide_eq_true_eq]
    refine ⟨⟨by simp [inB]; omega, by omega⟩, all_range fun j hj => ?_⟩
    rw [rowB_def]
    exact hok j (by omega)
theorem f30_con (p t : List (List Int)) (hp : okLL p) (ht : okLL t) (m : Int) (hm : 1 ≤ m ∧ m ≤ 10) : ∃ r, Con Try.prog cfg 30 [.agg [LLI p, LLI t], I m] r ∧ TameR m r := by
  have ml : maxLen = 9223372036854775807 := by decide
  have k16 := fun h h' K => ConW_any (h := h) (h' := h') (K := K) (f16_con p t hp ht) (by unfold netV; split <;> rfl)
  have okp := tableM_ok p
  have okt := tableM_ok t
  have lp : (tableM p).length ≤ 12 := by simp [tableM]; omega
  have lt : (tableM t).length ≤ 12 := by simp [tableM]; omega
  generalize tableM p = p' at *
  generalize tableM t = t' at *
  have hv : ∃ pv tv, netV p' t' = .agg [pv, tv] ∧ LV pv p' ∧ LV tv t' ∧ (∀ h, sealA h (.agg [pv, tv]) = some (.agg [pv, tv], h)) ∧ Con Try.prog cfg 19 [.agg [pv, tv]] (.bool (netB p' t')) ∧ (netB p' t' = true → pv = LLI p' ∧ tv = LLI t') := by
    by_cases hnil : p' = [] ∧ t' = []
    · obtain ⟨rfl, rfl⟩ := hnil
      exact ⟨.nil, .nil, netV_nil, .inr ⟨rfl, rfl⟩, .inr ⟨rfl, rfl⟩, fun _ => rfl, f19_nil, fun h => by cases h⟩
    · exact ⟨LLI p', LLI t', netV_cons hnil, .inl rfl, .inl rfl, fun h => by simp (disch := first | (simp only [go_sem, Bool.and_self, eq_self]; done) | omega | (simp only [List.length_cons, List.length_nil]; omega)) only [go_sem, ↓reduceIte, Nat.reduceEqDiff, Nat.reduceAdd, Nat.reduceMul, Nat.reduceSub, Int.reduceToNat, Nat.reduceBEq, List.size_toArray, List.length_cons, List.length_nil, Bool.false_and, Bool.true_and, Bool.or_false, Bool.false_or, Bool.and_false, Bool.and_true], f19_con p' t' okp okt, fun _ => ⟨rfl, rfl⟩⟩
  obtain ⟨pv, tv, hnv, lpv, ltv, hse, c19, hne⟩ := hv
  rw [hnv] at k16
  have k19 := fun h h' K => ConW_num (h := h) (h' := h') (K := K) c19 rfl
  have hcp := lpv.cell
  have hct := ltv.cell
  have hst := fun h => show storeC h 2 0 2 (some (.cells false false [.nil, .nil])) [pv, tv] = some (.skp, h.put 2 (some (.cells false false [pv, tv]))) by simp [storeC, hcp, hct, setL]
  have klp := lpv.len
  have klt := ltv.len
  refine Con_introE Try.func30 rfl ok30 (Nat.le_of_ble_eq_true rfl) rfl ?_
  have tl := fun st h a1 a2 a3 a4 a5 a6 => f30_tail p' t' pv tv lpv ltv okp okt lp lt m hm st h a1 a2 a3 a4 a5 a6
  have hb : Try.f30.body.getD .skip = withTail 3 (Try.f30.body.getD .skip) (tailN 3 (Try.f30.body.getD .skip)) := rfl
  rw [hb]
  generalize tailN 3 (Try.f30.body.getD .skip) = T at tl ⊢
  simp only [withTail, Try.f30, Option.getD_some, initSt2]
  cases h1 : netB p' t' with
  | true =>
    obtain ⟨rfl, rfl⟩ := hne h1
    by_cases hle : (p'.length : Int) ≤ m
    · simp (disch := first | (simp only [go_sem, Bool.and_self, eq_self]; done) | omega | (simp only [List.length_cons, List.length_nil]; omega)) only [go_sem, ↓reduceIte, Nat.reduceEqDiff, Nat.reduceAdd, Nat.reduceMul, Nat.reduceSub, Int.reduceToNat, Nat.reduceBEq, List.size_toArray, List.length_cons, List.length_nil, Bool.false_and, Bool.true_and, Bool.or_false, Bool.false_or, Bool.and_false, Bool.and_true, k16, k19, hse, hst, h1, hle]
      refine ⟨.agg [LLI p', LLI t'], ?_, p', t', h1, hle, rfl⟩
      show (exportV Try.prog false false 24 _ [] (.agg [LLI p', LLI t'])).bind _ = _
      rw [exportV_plain, hse]; rfl
    · simp (disch := first | (simp only [go_sem, Bool.and_self, eq_self]; done) | omega | (simp only [List.length_cons, List.length_nil]; omega)) only [go_sem, ↓reduceIte, Nat.reduceEqDiff, Nat.reduceAdd, Nat.reduceMul, Nat.reduceSub, Int.reduceToNat, Nat.reduceBEq, List.size_toArray, List.length_cons, List.length_nil, Bool.false_and, Bool.true_and, Bool.or_false, Bool.false_or, Bool.and_false, Bool.and_true, k16, k19, hse, hst, h1, hle]
      exact tl _ _ (by simp (disch := first | (simp only [go_sem, Bool.and_self, eq_self]; done) | omega | (simp only [List.length_cons, List.length_nil]; omega)) only [go_sem, ↓reduceIte, Nat.reduceEqDiff, Nat.reduceAdd, Nat.reduceMul, Nat.reduceSub, Int.reduceToNat, Nat.reduceBEq, List.size_toArray, List.length_cons, List.length_nil, Bool.false_and, Bool.true_and, Bool.or_false, Bool.false_or, Bool.and_false, Bool.and_true]) (by simp (disch := first | (simp only [go_sem, Bool.and_self, eq_self]; done) | omega | (simp only [List.length_cons, List.length_nil]; omega)) only [go_sem, ↓reduceIte, Nat.reduceEqDiff, Nat.reduceAdd, Nat.reduceMul, Nat.reduceSub, Int.reduceToNat, Nat.reduceBEq, List.size_toArray, List.length_cons, List.length_nil, Bool.false_and, Bool.true_and, Bool.or_false, Bool.false_or, Bool.and_false, Bool.and_true]) (by simp (disch := first | (simp only [go_sem, Bool.and_self, eq_self]; done) | omega | (simp only [List.length_cons, List.length_nil]; omega)) only [go_sem, ↓reduceIte, Nat.reduceEqDiff, Nat.reduceAdd, Nat.reduceMul, Nat.reduceSub, Int.reduceToNat, Nat.reduceBEq, List.size_toArray, List.length_cons, List.length_nil, Bool.false_and, Bool.true_and, Bool.or_false, Bool.false_or, Bool.and_false, Bool.and_true]) (by simp (disch := first | (simp only [go_sem, Bool.and_self, eq_self]; done) | omega | (simp only [List.length_cons, List.length_nil]; omega)) only [go_sem, ↓reduceIte, Nat.reduceEqDiff, Nat.reduceAdd, Nat.reduceMul, Nat.reduceSub, Int.reduceToNat, Nat.reduceBEq, List.size_toArray, List.length_cons, List.length_nil, Bool.false_and, Bool.true_and, Bool.or_false, Bool.false_or, Bool.and_false, Bool.and_true]) (by simp (disch := first | (simp only [go_sem, Bool.and_self, eq_self]; done) | omega | (simp only [List.length_cons, List.length_nil]; omega)) only [go_sem, ↓reduceIte, Nat.reduceEqDiff, Nat.reduceAdd, Nat.reduceMul, Nat.reduceSub, Int.reduceToNat, Nat.reduceBEq, List.size_toArray, List.length_cons, List.length_nil, Bool.false_and, Bool.true_and, Bool.or_false, Bool.false_or, Bool.and_false, Bool.and_true]) (by simp (disch := first | (simp only [go_sem, Bool.and_self, eq_self]; done) | omega | (simp only [List.length_cons, List.length_nil]; omega)) only [go_sem, ↓reduceIte, Nat.reduceEqDiff, Nat.reduceAdd, Nat.reduceMul, Nat.reduceSub, Int.reduceToNat, Nat.reduceBEq, List.size_toArray, List.length_cons, List.length_nil, Bool.false_and, Bool.true_and, Bool.or_false, Bool.false_or, Bool.and_false, Bool.and_true])
  | false =>
    simp (disch := first | (simp only [go_sem, Bool.and_self, eq_self]; done) | omega | (simp only [List.length_cons, List.length_nil]; omega)) only [go_sem, ↓reduceIte, Nat.reduceEqDiff, Nat.reduceAdd, Nat.reduceMul, Nat.reduceSub, Int.reduceToNat, Nat.reduceBEq, List.size_toArray, List.length_cons, List.length_nil, Bool.false_and, Bool.true_and, Bool.or_false, Bool.false_or, Bool.and_false, Bool.and_true, k16, k19, hse, hst, h1]
    exact tl _ _ (by simp (disch := first | (simp only [go_sem, Bool.and_self, eq_self]; done) | omega | (simp only [List.length_cons, List.length_nil]; omega)) only [go_sem, ↓reduceIte, Nat.reduceEqDiff, Nat.reduceAdd, Nat.reduceMul, Nat.reduceSub, Int.reduceToNat, Nat.reduceBEq, List.size_toArray, List.length_cons, List.length_nil, Bool.false_and, Bool.true_and, Bool.or_false, Bool.false_or, Bool.and_false, Bool.and_true]) (by simp (disch := first | (simp only [go_sem, Bool.and_self, eq_self]; done) | omega | (simp only [List.length_cons, List.length_nil]; omega)) only [go_sem, ↓reduceIte, Nat.reduceEqDiff, Nat.reduceAdd, Nat.reduceMul, Nat.reduceSub, Int.reduceToNat, Nat.reduceBEq, List.size_toArray, List.length_cons, List.length_nil, Bool.false_and, Bool.true_and, Bool.or_false, Bool.false_or, Bool.and_false, Bool.and_true]) (by simp (disch := first | (simp only [go_sem, Bool.and_self, eq_self]; done) | omega | (simp only [List.length_cons, List.length_nil]; omega)) only [go_sem, ↓reduceIte, Nat.reduceEqDiff, Nat.reduceAdd, Nat.reduceMul, Nat.reduceSub, Int.reduceToNat, Nat.reduceBEq, List.size_toArray, List.length_cons, List.length_nil, Bool.false_and, Bool.true_and, Bool.or_false, Bool.false_or, Bool.and_false, Bool.and_true]) (by simp (disch := first | (simp only [go_sem, Bool.and_self, eq_self]; done) | omega | (simp only [List.length_cons, List.length_nil]; omega)) only [go_sem, ↓reduceIte, Nat.reduceEqDiff, Nat.reduceAdd, Nat.reduceMul, Nat.reduceSub, Int.reduceToNat, Nat.reduceBEq, List.size_toArray, List.length_cons, List.length_nil, Bool.false_and, Bool.true_and, Bool.or_false, Bool.false_or, Bool.and_false, Bool.and_true]) (by simp (disch := first | (simp only [go_sem, Bool.and_self, eq_self]; done) | omega | (simp only [List.length_cons, List.length_nil]; omega)) only [go_sem, ↓reduceIte, Nat.reduceEqDiff, Nat.reduceAdd, Nat.reduceMul, Nat.reduceSub, Int.reduceToNat, Nat.reduceBEq, List.size_toArray, List.length_cons, List.length_nil, Bool.false_and, Bool.true_and, Bool.or_false, Bool.false_or, Bool.and_false, Bool.and_true]) (by simp (disch := first | (simp only [go_sem, Bool.and_self, eq_self]; done) | omega | (simp only [List.length_cons, List.length_nil]; omega)) only [go_sem, ↓reduceIte, Nat.reduceEqDiff, Nat.reduceAdd, Nat.reduceMul, Nat.reduceSub, Int.reduceToNat, Nat.reduceBEq, List.size_toArray, List.length_cons, List.length_nil, Bool.false_and, Bool.true_and, Bool.or_false, Bool.false_or, Bool.and_false, Bool.and_true])

end Go.Proofs.Ytpkakapbepkfdaa

set_option linter.unusedVariables false
set_option linter.unusedSimpArgs false
set_option maxRecDepth 10000
namespace Go.Proofs.Ytpkakapbepkfdaa
open Go Go.Am

variable {h h' : Hp} {K : AV → Hp → Prop}

theorem list_ext_nth {a b : List Int} (hl : a.length = b.length) (h : ∀ i, i < a.length → nth a i = nth b i) : a = b :=
  List.ext_getElem hl fun i h1 h2 => by rw [← nth_getElem h1, ← nth_getElem h2]; exact h i h1
theorem f39_con (a b : List Int) (ha : a.length ≤ maxLen) (hb : b.length ≤ maxLen) : Con Try.prog cfg 39 [LI a, LI b] (.bool (decide (a = b))) := by
  have ml : maxLen = 9223372036854775807 := by decide
  refine Con_intro Try.func39 rfl ok39 (Nat.le_of_ble_eq_true rfl) rfl ?_
  simp only [Try.f39, Option.getD_some, initSt2]
  by_cases hl : a.length = b.length
  case neg =>
    have hn : ¬ (a.length : Int) = b.length := by omega
    have hr : ¬ a = b := fun h => hl (by rw [h])
    simp (disch := first | (simp only [go_sem, Bool.and_self, eq_self]; done) | omega | (simp only [List.length_cons, List.length_nil]; omega)) only [go_sem, ↓reduceIte, Nat.reduceEqDiff, Nat.reduceAdd, Nat.reduceMul, Nat.reduceSub, Int.reduceToNat, Nat.reduceBEq, List.size_toArray, List.length_cons, List.length_nil, Bool.false_and, Bool.true_and, Bool.or_false, Bool.false_or, Bool.and_false, Bool.and_true, hn, hr]
  have hn : (a.length : Int) = b.length := by omega
  simp (disch := first | (simp only [go_sem, Bool.and_self, eq_self]; done) | omega | (simp only [List.length_cons, List.length_nil]; omega)) only [go_sem, ↓reduceIte, Nat.reduceEqDiff, Nat.reduceAdd, Nat.reduceMul, Nat.reduceSub, Int.reduceToNat, Nat.reduceBEq, List.size_toArray, List.length_cons, List.length_nil, Bool.false_and, Bool.true_and, Bool.or_false, Bool.false_or, Bool.and_false, Bool.and_true, hn]
  refine WP_for 5 a.length (fun i st h => st 0 = LI a ∧ st 1 = LI b ∧ st 4 = .bool false ∧ ∀ j, j < i → nth a j = nth b j) (by simp (disch := first | (simp only [go_sem, Bool.and_self, eq_self]; done) | omega | (simp only [List.length_cons, List.length_nil]; omega)) only [go_sem, ↓reduceIte, Nat.reduceEqDiff, Nat.reduceAdd, Nat.reduceMul, Nat.reduceSub, Int.reduceToNat, Nat.reduceBEq, List.size_toArray, List.length_cons, List.length_nil, Bool.false_and, Bool.true_and, Bool.or_false, Bool.false_or, Bool.and_false, Bool.and_true]) ⟨by simp (disch := first | (simp only [go_sem, Bool.and_self, eq_self]; done) | omega | (simp only [List.length_cons, List.length_nil]; omega)) only [go_sem, ↓reduceIte, Nat.reduceEqDiff, Nat.reduceAdd, Nat.reduceMul, Nat.reduceSub, Int.reduceToNat, Nat.reduceBEq, List.size_toArray, List.length_cons, List.length_nil, Bool.false_and, Bool.true_and, Bool.or_false, Bool.false_or, Bool.and_false, Bool.and_true], by simp (disch := first | (simp only [go_sem, Bool.and_self, eq_self]; done) | omega | (simp only [List.length_cons, List.length_nil]; omega)) only [go_sem, ↓reduceIte, Nat.reduceEqDiff, Nat.reduceAdd, Nat.reduceMul, Nat.reduceSub, Int.reduceToNat, Nat.reduceBEq, List.size_toArray, List.length_cons, List.length_nil, Bool.false_and, Bool.true_and, Bool.or_false, Bool.false_or, Bool.and_false, Bool.and_true], by simp (disch := first | (simp only [go_sem, Bool.and_self, eq_self]; done) | omega | (simp only [List.length_cons, List.length_nil]; omega)) only [go_sem, ↓reduceIte, Nat.reduceEqDiff, Nat.reduceAdd, Nat.reduceMul, Nat.reduceSub, Int.reduceToNat, Nat.reduceBEq, List.size_toArray, List.length_cons, List.length_nil, Bool.false_and, Bool.true_and, Bool.or_false, Bool.false_or, Bool.and_false, Bool.and_true], by omega⟩ ?_
  rintro i st h hi s5 ⟨s0, s1, s4, hg⟩
  by_cases hlt : i < a.length
  case neg =>
    have hab : a = b := list_ext_nth hl fun j hj => hg j (by omega)
    have hlt2 : ¬ (i : Int) < a.length := by omega
    subst hab
    simp (disch := first | (simp only [go_sem, Bool.and_self, eq_self]; done) | omega | (simp only [List.length_cons, List.length_nil]; omega)) only [go_sem, ↓reduceIte, Nat.reduceEqDiff, Nat.reduceAdd, Nat.reduceMul, Nat.reduceSub, Int.reduceToNat, Nat.reduceBEq, List.size_toArray, List.length_cons, List.length_nil, Bool.false_and, Bool.true_and, Bool.or_false, Bool.false_or, Bool.and_false, Bool.and_true, s0, s1, s4, s5, hlt]
  have hlb : i < b.length := by omega
  by_cases he : nth a i = nth b i
  · simp (disch := first | (simp only [go_sem, Bool.and_self, eq_self]; done) | omega | (simp only [List.length_cons, List.length_nil]; omega)) only [go_sem, ↓reduceIte, Nat.reduceEqDiff, Nat.reduceAdd, Nat.reduceMul, Nat.reduceSub, Int.reduceToNat, Nat.reduceBEq, List.size_toArray, List.length_cons, List.length_nil, Bool.false_and, Bool.true_and, Bool.or_false, Bool.false_or, Bool.and_false, Bool.and_true, s0, s1, s4, s5, hlt, hlb, he]
    rw [ForK_normal]
    exact ⟨hlt, by simp (disch := first | (simp only [go_sem, Bool.and_self, eq_self]; done) | omega | (simp only [List.length_cons, List.length_nil]; omega)) only [go_sem, ↓reduceIte, Nat.reduceEqDiff, Nat.reduceAdd, Nat.reduceMul, Nat.reduceSub, Int.reduceToNat, Nat.reduceBEq, List.size_toArray, List.length_cons, List.length_nil, Bool.false_and, Bool.true_and, Bool.or_false, Bool.false_or, Bool.and_false, Bool.and_true, s5], by simp (disch := first | (simp only [go_sem, Bool.and_self, eq_self]; done) | omega | (simp only [List.length_cons, List.length_nil]; omega)) only [go_sem, ↓reduceIte, Nat.reduceEqDiff, Nat.reduceAdd, Nat.reduceMul, Nat.reduceSub, Int.reduceToNat, Nat.reduceBEq, List.size_toArray, List.length_cons, List.length_nil, Bool.false_and, Bool.true_and, Bool.or_false, Bool.false_or, Bool.and_false, Bool.and_true, s0], by simp (disch := first | (simp only [go_sem, Bool.and_self, eq_self]; done) | omega | (simp only [List.length_cons, List.length_nil]; omega)) only [go_sem, ↓reduceIte, Nat.reduceEqDiff, Nat.reduceAdd, Nat.reduceMul, Nat.reduceSub, Int.reduceToNat, Nat.reduceBEq, List.size_toArray, List.length_cons, List.length_nil, Bool.false_and, Bool.true_and, Bool.or_false, Bool.false_or, Bool.and_false, Bool.and_true, s1], by simp (disch := first | (simp only [go_sem, Bool.and_self, eq_self]; done) | omega | (simp only [List.length_cons, List.length_nil]; omega)) only [go_sem, ↓reduceIte, Nat.reduceEqDiff, Nat.reduceAdd, Nat.reduceMul, Nat.reduceSub, Int.reduceToNat, Nat.reduceBEq, List.size_toArray, List.length_cons, List.length_nil, Bool.false_and, Bool.true_and, Bool.or_false, Bool.false_or, Bool.and_false, Bool.and_true, s4], fun j hj => by
      rcases Nat.lt_or_ge j i with h | h
      · exact hg j h
      · rw [show j = i by omega]; exact he⟩
  · have hr : ¬ a = b := fun h => he (by rw [h])
    simp (disch := first | (simp only [go_sem, Bool.and_self, eq_self]; done) | omega | (simp only [List.length_cons, List.length_nil]; omega)) only [go_sem, ↓reduceIte, Nat.reduceEqDiff, Nat.reduceAdd, Nat.reduceMul, Nat.reduceSub, Int.reduceToNat, Nat.reduceBEq, List.size_toArray, List.length_cons, List.length_nil, Bool.false_and, Bool.true_and, Bool.or_false, Bool.false_or, Bool.and_false, Bool.and_true, s0, s1, s4, s5, hlt, hlb, he, hr]
theorem f66_con (xs : List Int) (h0 : 0 < xs.length) (hl : xs.length ≤ 10) : Con Try.prog cfg 66 [LI xs] (.fresh 1 (xs.flatMap (e1 I))) := by
  have happ := fun (h : Hp) (hb : h.bl 0 = some (.cells false true [])) => app_own (P := Try.prog) (h := h) (f := e1 I) 3 8 (I 0) (LI xs) 0 [] xs 0 isz3 ibytes3 izero3 rfl hb rfl (cellsOf_L _ _) (lenA_L _ _) (by simp; omega) (by simp; omega)
  have hne : binA Try.prog .eql 25 (LI xs) .nil = some (.bool false) := by
    cases xs with
    | nil => simp at h0
    | cons x xs => rfl
  have hex : ∀ h : Hp, exportR Try.prog true false [25] (((h.alloc (.cells false true [])).put 0 none).alloc (.cells false true (xs.flatMap (e1 I)))) (.sl (h.nx + 1) 0 xs.length 1) = some (.fresh 1 (xs.flatMap (e1 I))) := fun h =>
    export_fresh (f := e1 I) false 25 3 und25 rfl (.inr ⟨h.nx + 1, rfl, by simp [Hp.alloc, Hp.put], by simp [Hp.alloc, Hp.put]⟩)
  refine Con_intro Try.func66 rfl ok66 (Nat.le_of_ble_eq_true rfl) rfl ?_
  simp only [Try.f66, Option.getD_some, initSt1]
  have hbs := fun h => bsB_empty (P := Try.prog) (h := h) 3 1 (I 0) isz3 izero3 Nat.one_pos
  simp (disch := first | (simp only [go_sem, Bool.and_self, eq_self]; done) | omega | (simp only [List.length_cons, List.length_nil]; omega)) only [go_sem, ↓reduceIte, Nat.reduceEqDiff, Nat.reduceAdd, Nat.reduceMul, Nat.reduceSub, Int.reduceToNat, Nat.reduceBEq, List.size_toArray, List.length_cons, List.length_nil, Bool.false_and, Bool.true_and, Bool.or_false, Bool.false_or, Bool.and_false, Bool.and_true, hne, hbs]
  have happ' := happ (Hp.empty.alloc (.cells false true [])) (by simp [Hp.alloc, Hp.empty])
  simp only [List.length_nil, Nat.zero_add, List.nil_append] at happ'
  simp (disch := first | (simp only [go_sem, Bool.and_self, eq_self]; done) | omega | (simp only [List.length_cons, List.length_nil]; omega)) only [go_sem, ↓reduceIte, Nat.reduceEqDiff, Nat.reduceAdd, Nat.reduceMul, Nat.reduceSub, Int.reduceToNat, Nat.reduceBEq, List.size_toArray, List.length_cons, List.length_nil, Bool.false_and, Bool.true_and, Bool.or_false, Bool.false_or, Bool.and_false, Bool.and_true, happ']
  exact hex Hp.empty
theorem chance_scalar (p t : List (List Int)) (f g : List (Int × Int)) : (chanceR p t f g).isScalar = true := by
  unfold chanceR
  repeat' split
  all_goals rfl
theorem refC_scalar (p t : List (List Int)) (f g : List (Int × Int)) : (refC p t f g).isScalar = true := by
  unfold refC
  repeat' split
  all_goals rfl

end Go.Proofs.Ytpkakapbepkfdaa

set_option linter.unusedVariables false
set_option linter.unusedSimpArgs false
set_option maxRecDepth 10000
namespace Go.Proofs.Ytpkakapbepkfdaa
open Go Go.Am

variable {h h' : Hp} {K : AV → Hp → Prop}

theorem f63_con (x : Int) (hx : 0 ≤ x ∧ x ≤ 4611686018427387904) : Con Try.prog cfg 63 [I x] (I x) := by
  have hm : max x (0 - x) = x := by omega
  refine Con_intro Try.func63 rfl ok63 (Nat.le_of_ble_eq_true rfl) rfl ?_
  simp only [Try.f63, Option.getD_some, initSt1]
  simp (disch := first | (simp only [go_sem, Bool.and_self, eq_self]; done) | omega | (simp only [List.length_cons, List.length_nil]; omega)) only [go_sem, ↓reduceIte, Nat.reduceEqDiff, Nat.reduceAdd, Nat.reduceMul, Nat.reduceSub, Int.reduceToNat, Nat.reduceBEq, List.size_toArray, List.length_cons, List.length_nil, Bool.false_and, Bool.true_and, Bool.or_false, Bool.false_or, Bool.and_false, Bool.and_true, hm]
theorem f34_con (a b : Int) (ha : 0 ≤ a ∧ a ≤ 4611686018427387904) (hb : 0 < b ∧ b ≤ 4611686018427387904) (hg : gcdI a b = 1) : Con Try.prog cfg 34 [.agg [I a, I b]] (.bool true) := by
  have h1 := Int.tmod_nonneg b ha.1
  have h2 := Int.tmod_lt_of_pos a hb.1
  have k63 := fun h h' K => ConW_num (h := h) (h' := h') (K := K) (f63_con (a.tmod b) (by omega)) rfl
  have k62' := fun h h' K => k62 (h := h) (h' := h') (K := K) b (a.tmod b) (by omega) (by omega)
  have hs := gcdI_step ha.1 hb.1
  rw [hs, hg] at k62'
  have n1 : ¬ b < 1 := by omega
  have n0 : ¬ b = 0 := by omega
  have hal : ∀ g : Hp, allocB g (some (.agg [I a, I b])) = some (.ptr g.nx 0, g.alloc (.cells false false [I a, I b])) := fun g => allocB_agg _ rfl
  refine Con_intro Try.func34 rfl ok34 (Nat.le_of_ble_eq_true rfl) rfl ?_
  simp only [Try.f34, Option.getD_some, initSt1]
  simp (disch := first | (simp only [go_sem, Bool.and_self, eq_self]; done) | omega | (simp only [List.length_cons, List.length_nil]; omega)) only [go_sem, ↓reduceIte, Nat.reduceEqDiff, Nat.reduceAdd, Nat.reduceMul, Nat.reduceSub, Int.reduceToNat, Nat.reduceBEq, List.size_toArray, List.length_cons, List.length_nil, Bool.false_and, Bool.true_and, Bool.or_false, Bool.false_or, Bool.and_false, Bool.and_true, hal, n1, n0, k63, k62']
theorem redu_gcd {a b : Int} (hb : 0 < b) : gcdI (a / gcdI a b) (b / gcdI a b) = 1 := by
  have h : 0 < Int.gcd a b := Int.gcd_pos_of_ne_zero_right _ (by omega)
  have := Int.gcd_ediv_gcd_ediv_gcd h
  unfold gcdI
  rw [this]; rfl
theorem redu_pos {a b : Int} (ha : 0 < a) (hb : 0 < b) : 0 < a / gcdI a b ∧ 0 < b / gcdI a b ∧ a / gcdI a b ≤ a ∧ b / gcdI a b ≤ b := by
  have hg := gcdI_pos (a := a) hb
  have d1 : gcdI a b ∣ a := Int.gcd_dvd_left a b
  have d2 : gcdI a b ∣ b := Int.gcd_dvd_right a b
  refine ⟨Int.ediv_pos_of_pos_of_dvd ha (by omega) d1, Int.ediv_pos_of_pos_of_dvd hb (by omega) d2, Int.ediv_le_self _ (by omega), Int.ediv_le_self _ (by omega)⟩
theorem redu_mul (a b : Int) : gcdI a b * (a / gcdI a b) = a ∧ gcdI a b * (b / gcdI a b) = b :=
  ⟨Int.mul_ediv_cancel' (Int.gcd_dvd_left a b), Int.mul_ediv_cancel' (Int.gcd_dvd_right a b)⟩
/-- Two fractions with one denominator, reduced, and compared crosswise. -/
theorem cross {x y d : Int} (hd : 0 < d) : (x / gcdI x d * (d / gcdI y d) < y / gcdI y d * (d / gcdI x d) ↔ x < y) ∧ (x / gcdI x d * (d / gcdI y d) = y / gcdI y d * (d / gcdI x d) ↔ x = y) := by
  have hgx := gcdI_pos (a := x) hd
  have hgy := gcdI_pos (a := y) hd
  obtain ⟨x1, x2⟩ := redu_mul x d
  obtain ⟨y1, y2⟩ := redu_mul y d
  generalize gcdI x d = g at *
  generalize gcdI y d = k at *
  generalize x / g = a at *
  generalize d / g = c at *
  generalize y / k = b at *
  generalize d / k = e at *
  have hG : 0 < g * k := Int.mul_pos hgx hgy
  have h1 : g * k * (a * e) = x * d := by rw [← x1, ← y2]; rw [show g * k * (a * e) = (g * a) * (k * e) by rw [Int.mul_assoc, Int.mul_left_comm k a e, ← Int.mul_assoc]]
  have h2 : g * k * (b * c) = y * d := by rw [← y1, ← x2]; rw [Int.mul_comm g k, Int.mul_assoc, Int.mul_left_comm g b c, ← Int.mul_assoc]
  constructor
  · rw [← Int.mul_lt_mul_left hG, h1, h2]; exact Int.mul_lt_mul_right hd
  · constructor
    · intro h
      have h3 : x * d = y * d := by rw [← h1, ← h2, h]
      exact Int.eq_of_mul_eq_mul_right (by omega) h3
    · rintro rfl
      have h3 : g * k * (a * e) = g * k * (b * c) := by rw [h1, h2]
      exact Int.eq_of_mul_eq_mul_left (by omega) h3

theorem sumN_nonneg_zero {f : Nat → Int} : ∀ {n : Nat}, (∀ i, i < n → f i = 0) → sumN f n = 0
  | 0, _ => rfl
  | n + 1, h => by rw [sumN, sumN_nonneg_zero (fun i hi => h i (by omega)), h n (by omega)]; rfl
theorem redu_bounds {a b : Int} (ha : 0 ≤ a) (hb : 0 < b) : 0 ≤ a / gcdI a b ∧ 0 < b / gcdI a b ∧ a / gcdI a b ≤ a ∧ b / gcdI a b ≤ b := by
  have hg := gcdI_pos (a := a) hb
  have d2 : gcdI a b ∣ b := Int.gcd_dvd_right a b
  exact ⟨Int.ediv_nonneg ha (by omega), Int.ediv_pos_of_pos_of_dvd hb (by omega) d2, Int.ediv_le_self _ ha, Int.ediv_le_self _ (by omega)⟩
def agP (v : List Int) (g : List (Int × Int)) (i : Nat) : Bool := (List.range i).all fun j => decide (nth v (nth g j).1.toNat = (nth g j).2)
theorem agP_succ (v : List Int) (g : List (Int × Int)) (i : Nat) : agP v g (i + 1) = (agP v g i && decide (nth v (nth g i).1.toNat = (nth g i).2)) := by simp [agP, List.range_succ]
theorem agP_all (v : List Int) (g : List (Int × Int)) : agP v g g.length = agreeB v g := by
  rw [Bool.eq_iff_iff, agP, agreeB, List.all_eq_true, List.all_eq_true]
  constructor
  · intro h q hq
    obtain ⟨j, hj, rfl⟩ := List.getElem_of_mem hq
    rw [← nth_getElem hj]; exact h j (by simpa using hj)
  · intro h j hj
    have := h (nth g j) (nth_mem (by simpa using hj))
    exact this
theorem okLL_net {p t : List (List Int)} (h : netB p t = true) : okLL p ∧ okLL t := by
  have ml : maxLen = 9223372036854775807 := by decide
  have N := Net.of h
  have n1 := N.n1
  simp only [netB, Bool.and_eq_true, decide_eq_true_eq] at h
  refine ⟨⟨by omega, fun r hr => ?_⟩, ⟨by omega, fun r hr => ?_⟩⟩
  · obtain ⟨i, hi, rfl⟩ := List.getElem_of_mem hr
    have := range_all h.2 hi
    rw [rowB_def, rowOK] at this
    simp only [Bool.and_eq_true, decide_eq_true_eq] at this
    rw [← nth_getElem hi]; omega
  · obtain ⟨i, hi, rfl⟩ := List.getElem_of_mem hr
    have := range_all h.2 (show i < p.length by omega)
    rw [rowB_def, rowOK] at this
    simp only [Bool.and_eq_true, decide_eq_true_eq] at this
    have h8 : 2 ^ (nth p i).length ≤ 2 ^ 3 := Nat.pow_le_pow_right (by decide) this.1.1.1
    rw [← nth_getElem hi]; omega
theorem joint_row {p t : List (List Int)} (h1 : netB p t = true) (x : Nat) : jointR p t (rowN p.length x) = .tup [redu (weightB p t (rowN p.length x) p.length) (16 ^ p.length), I 0] := by
  have hrow : rowOkB p (rowN p.length x) = true := by
    simp only [rowOkB, rowN_len, decide_true, Bool.true_and]
    rw [not_any_nth (f := fun x => !inB x 0 1) fun j hj => by
      rw [rowN_len] at hj
      rcases (row_rowN (p := p) (x := x)).bit j hj with h | h <;> rw [h] <;> rfl]
    rfl
  rw [jointR, h1, hrow, weight_ten (Net.of h1) hrow]; rfl
theorem pow28 {n : Nat} (h : n ≤ 7) : (16 : Int) ^ n ≤ 268435456 := by
  have h1 : (16 : Nat) ^ n ≤ 268435456 := Nat.pow_le_pow_right (n := 16) (by decide) h
  have e : (16 : Int) ^ n = ((16 ^ n : Nat) : Int) := by simp
  rw [e]; omega


end Go.Proofs.Ytpkakapbepkfdaa

set_option linter.unusedVariables false
set_option linter.unusedSimpArgs false
set_option maxRecDepth 10000
namespace Go.Proofs.Ytpkakapbepkfdaa
open Go Go.Am

variable {h h' : Hp} {K : AV → Hp → Prop}

theorem rowN_two (m y b : Nat) (hb : b < 2) : rowN (m + 1) (2 * y + b) = rowN m y ++ [(b : Int)] := by
  refine list_ext_nth (by simp [rowN_len]) fun j hj => ?_
  rw [rowN_len] at hj
  rw [rowN_nth hj]
  by_cases h : j < m
  · rw [nth_append_left _ _ _ (by rw [rowN_len]; exact h), rowN_nth h]
    have e : 2 ^ (m + 1 - 1 - j) = 2 * 2 ^ (m - 1 - j) := by
      rw [← Nat.pow_succ']; congr 1; omega
    rw [e, ← Nat.div_div_eq_div_mul, show (2 * y + b) / 2 = y by omega]
  · have hjm : j = m := by omega
    subst hjm
    rw [nth, List.getElem?_append_right (by rw [rowN_len]; omega), rowN_len]
    simp only [Nat.sub_self, List.getElem?_cons_zero, Option.getD_some, Nat.add_sub_cancel, Nat.pow_zero, Nat.div_one]
    omega
theorem sumN_two (f : Nat → Int) : ∀ n, sumN f (2 * n) = sumN (fun y => f (2 * y) + f (2 * y + 1)) n
  | 0 => rfl
  | n + 1 => by
    have e : 2 * (n + 1) = 2 * n + 1 + 1 := by omega
    rw [e, sumN, sumN, sumN_two f n, sumN]; omega
theorem sumN_mul (f : Nat → Int) (c : Int) : ∀ n, sumN (fun y => f y * c) n = sumN f n * c
  | 0 => by simp [sumN]
  | n + 1 => by rw [sumN, sumN, sumN_mul f c n, Int.add_mul]
theorem wt_front {p t : List (List Int)} (N : Net p t) {v w : List Int} {i : Nat} (hi : i < p.length) (h : ∀ k, k ≤ i → nth v k = nth w k) : wt p t v i = wt p t w i := by
  have : caseF (nth p i) v (nth p i).length = caseF (nth p i) w (nth p i).length := caseF_congr fun k hk => by
    obtain ⟨a0, a1⟩ := N.par i k hi hk
    exact h _ (by omega)
  simp only [wt, this, h i (Nat.le_refl _)]
theorem total {p t : List (List Int)} (N : Net p t) : ∀ m, m ≤ p.length → sumN (fun x => prodN (wt p t (rowN m x)) m) (2 ^ m) = 16 ^ m
  | 0, _ => by simp [sumN, prodN]
  | m + 1, hm => by
    have ih := total N m (by omega)
    rw [Nat.pow_succ, Nat.mul_comm, sumN_two]
    have e : ∀ y, y < 2 ^ m → (fun y => prodN (wt p t (rowN (m + 1) (2 * y))) (m + 1) + prodN (wt p t (rowN (m + 1) (2 * y + 1))) (m + 1)) y = (fun y => prodN (wt p t (rowN m y)) m * 16) y := by
      intro y _
      have r0 := rowN_two m y 0 (by decide)
      have r1 := rowN_two m y 1 (by decide)
      simp only [Nat.add_zero] at r0
      have fr : ∀ b : Int, prodN (wt p t (rowN m y ++ [b])) m = prodN (wt p t (rowN m y)) m := fun b => prodN_congr fun i hi => wt_front N (by omega) fun k hk => nth_append_left _ _ _ (by rw [rowN_len]; omega)
      have last : ∀ b : Int, nth (rowN m y ++ [b]) m = b := fun b => by rw [nth, List.getElem?_append_right (by rw [rowN_len]; omega), rowN_len]; simp
      have cs : ∀ b : Int, caseF (nth p m) (rowN m y ++ [b]) (nth p m).length = caseF (nth p m) (rowN m y) (nth p m).length := fun b => caseF_congr fun k hk => by
        obtain ⟨a0, a1⟩ := N.par m k (by omega) hk
        exact nth_append_left _ _ _ (by rw [rowN_len]; omega)
      simp only [r0, r1, prodN, fr, wt, last, cs]
      simp only [show ((0 : Nat) : Int) = 0 from rfl, show ((1 : Nat) : Int) = 1 from rfl, if_true, show ¬ (1 : Int) = 0 by decide, if_false]
      rw [← Int.mul_add]; congr 1; omega
    rw [sumN_congr e, sumN_mul, ih, Int.pow_succ]
theorem total_weight {p t : List (List Int)} (N : Net p t) : sumN (fun x => weightB p t (rowN p.length x) p.length) (2 ^ p.length) = 16 ^ p.length := total N p.length (Nat.le_refl _)

/-- A reduced fraction with a denominator that is known, back. -/
theorem redu_back {a b : Int} (hb : 0 < b) : b.tmod (b / gcdI a b) = 0 ∧ b.tdiv (b / gcdI a b) = gcdI a b ∧ a / gcdI a b * gcdI a b = a := by
  have hg := gcdI_pos (a := a) hb
  have hp : 0 < b / gcdI a b := Int.ediv_pos_of_pos_of_dvd hb (by omega) (Int.gcd_dvd_right a b)
  obtain ⟨m1, m2⟩ := redu_mul a b
  generalize gcdI a b = g at *
  generalize b / g = c at *
  refine ⟨?_, ?_, by rw [Int.mul_comm]; exact m1⟩
  · rw [Int.tmod_eq_emod_of_nonneg (by omega), ← m2]; exact Int.mul_emod_left g c
  · rw [Int.tdiv_eq_ediv_of_nonneg (by omega), ← m2]; exact Int.mul_ediv_cancel g (by omega)
theorem sumN_bounds {f : Nat → Int} {M : Int} (h : ∀ i, 0 ≤ f i ∧ f i ≤ M) : ∀ n : Nat, 0 ≤ sumN f n ∧ sumN f n ≤ n * M
  | 0 => by simp [sumN]
  | n + 1 => by
    have h1 := sumN_bounds h n
    have h2 := h n
    rw [sumN]
    have e : ((n + 1 : Nat) : Int) * M = n * M + M := by rw [Int.natCast_add, Int.add_mul]; simp
    rw [e]; omega

end Go.Proofs.Ytpkakapbepkfdaa

set_option linter.unusedVariables false
set_option linter.unusedSimpArgs false
set_option maxRecDepth 10000
namespace Go.Proofs.Ytpkakapbepkfdaa
open Go Go.Am

variable {h h' : Hp} {K : AV → Hp → Prop}

def rowFP (p : List (List Int)) (v i : Nat) : List Int := if i = v then [] else nth p i
def rowFT (t : List (List Int)) (v : Nat) (x : Int) (i : Nat) : List Int := if i = v then [16 * x] else nth t i
def forceP (p : List (List Int)) (v : Nat) : List (List Int) := (List.range p.length).map (rowFP p v)
def forceT (p t : List (List Int)) (v : Nat) (x : Int) : List (List Int) := (List.range p.length).map (rowFT t v x)

structure FF (c : List AV) (P T : List (List Int)) (v w : AV) (h : Hp) : Prop where
  nx : 3 ≤ h.nx
  b0 : h.bl 0 = some (.cells false false c)
  b1 : h.bl 1 = some (.cells false false [.nil, .nil])
  b2 : h.bl 2 = some (.cells false false [v, w])
  ov : Own (e1 LI) 1 h v P
  ow : Own (e1 LI) 1 h w T
  d : Dis v w
/-- One row more for the first list: whatever it comes from ('x', sealed). -/
theorem FF.step1 {c : List AV} {P T : List (List Int)} {v w : AV} (F : FF c P T v w h) (r : List Int) (hP : P.length ≤ 20) :
    ∃ G V, appB Try.prog h (some (.slice 25)) true v (.lst [[LI r]]) = some (V, G) ∧ V.isCell = true ∧ G.nx = h.nx + 1 ∧ G.bl 0 = some (.cells false false c) ∧ G.bl 2 = some (.cells false false [v, w]) ∧
      (∀ g, storeC g 2 0 1 (some (.cells false false [v, w])) V.cells = some (.skp, g.put 2 (some (.cells false false [V, w])))) ∧ FF c (P ++ [r]) T V w (G.put 2 (some (.cells false false [V, w]))) ∧
      ∀ y ys, Own (e1 I) 1 h y ys → Dis v y → Own (e1 I) 1 (G.put 2 (some (.cells false false [V, w]))) y ys ∧ Dis V y := by
  have hap := app_one (P := Try.prog) F.ov 25 24 .nil r isz25 ibytes25 izero25 rfl (by omega) (by omega)
  have hn := F.nx
  have c0 := (appH_bl h v ((P ++ [r]).flatMap (e1 LI)) 0 (by omega) (own_ne F.ov F.b0)).trans F.b0
  have c1 := (appH_bl h v ((P ++ [r]).flatMap (e1 LI)) 1 (by omega) (own_ne F.ov F.b1)).trans F.b1
  have c2 := (appH_bl h v ((P ++ [r]).flatMap (e1 LI)) 2 (by omega) (own_ne F.ov F.b2)).trans F.b2
  have cn := appH_nx h v ((P ++ [r]).flatMap (e1 LI))
  have oV := Own.app (f := e1 LI) (sz := 1) h v (P ++ [r])
  have ow1 := Own.keep F.ow F.d ((P ++ [r]).flatMap (e1 LI))
  have dVw := Own.dis F.ow (P ++ [r]).length 1
  refine ⟨_, _, hap, own_cell oV, cn, c0, c2, fun g => store_fst (own_cell oV), ⟨?_, ?_, ?_, ?_, own_put oV c2 _, own_put ow1 c2 _, dVw⟩, fun y ys oy dy => ⟨own_put (Own.keep oy dy _) c2 _, oy.dis _ _⟩⟩
  · rw [put_nx, cn]; omega
  · rw [put_bl, if_neg (by decide)]; exact c0
  · rw [put_bl, if_neg (by decide)]; exact c1
  · rw [put_bl, if_pos rfl]
theorem FF.step2 {c : List AV} {P T : List (List Int)} {v w : AV} (F : FF c P T v w h) (r : List Int) (hT : T.length ≤ 20) :
    ∃ G V, appB Try.prog h (some (.slice 25)) true w (.lst [[LI r]]) = some (V, G) ∧ V.isCell = true ∧ G.nx = h.nx + 1 ∧ G.bl 0 = some (.cells false false c) ∧ G.bl 2 = some (.cells false false [v, w]) ∧
      (∀ g, storeC g 2 1 1 (some (.cells false false [v, w])) V.cells = some (.skp, g.put 2 (some (.cells false false [v, V])))) ∧ FF c P (T ++ [r]) v V (G.put 2 (some (.cells false false [v, V]))) := by
  have hap := app_one (P := Try.prog) F.ow 25 24 .nil r isz25 ibytes25 izero25 rfl (by omega) (by omega)
  have hn := F.nx
  have c0 := (appH_bl h w ((T ++ [r]).flatMap (e1 LI)) 0 (by omega) (own_ne F.ow F.b0)).trans F.b0
  have c1 := (appH_bl h w ((T ++ [r]).flatMap (e1 LI)) 1 (by omega) (own_ne F.ow F.b1)).trans F.b1
  have c2 := (appH_bl h w ((T ++ [r]).flatMap (e1 LI)) 2 (by omega) (own_ne F.ow F.b2)).trans F.b2
  have cn := appH_nx h w ((T ++ [r]).flatMap (e1 LI))
  have oW := Own.app (f := e1 LI) (sz := 1) h w (T ++ [r])
  have ov1 := Own.keep F.ov F.d.symm ((T ++ [r]).flatMap (e1 LI))
  have dVw := Own.dis F.ov (T ++ [r]).length 1
  refine ⟨_, _, hap, own_cell oW, cn, c0, c2, fun g => store_snd (own_cell oW), ?_, ?_, ?_, ?_, own_put ov1 c2 _, own_put oW c2 _, dVw.symm⟩
  · rw [put_nx, cn]; omega
  · rw [put_bl, if_neg (by decide)]; exact c0
  · rw [put_bl, if_neg (by decide)]; exact c1
  · rw [put_bl, if_pos rfl]
/-- A copy that is made and sealed. -/
theorem FF.clone {c : List AV} {P T : List (List Int)} {v w : AV} (F : FF c P T v w h) (r : List Int) : ∃ h1, sealA (h.alloc (.cells false true (r.flatMap (e1 I)))) (.sl h.nx 0 ((r.flatMap (e1 I)).length / 1) 1) = some (LI r, h1) ∧ FF c P T v w h1 := by
  have o : Own (e1 I) 1 (h.alloc (.cells false true (r.flatMap (e1 I)))) (.sl h.nx 0 ((r.flatMap (e1 I)).length / 1) 1) r := .inr ⟨h.nx, by rw [flat_len, Nat.div_one], by simp [Hp.alloc], by simp [Hp.alloc]⟩
  obtain ⟨h1, hs, hn, hb⟩ := sealA_Own o
  have hb' : ∀ i, i < h.nx → h1.bl i = h.bl i := fun i hi => by
    rw [hb i (fun id off n sz e => by cases e; omega)]
    simp [Hp.alloc, show ¬ i = h.nx by omega]
  have hn' : h1.nx = h.nx + 1 := hn
  have hF := F.nx
  exact ⟨h1, hs, by omega, (hb' 0 (by omega)).trans F.b0, (hb' 1 (by omega)).trans F.b1, (hb' 2 (by omega)).trans F.b2, F.ov.mono (by omega) hb', F.ow.mono (by omega) hb', F.d⟩
theorem FF.shut {c : List AV} {P T : List (List Int)} {v w x : AV} {r : List Int} (F : FF c P T v w h) (ox : Own (e1 I) 1 h x r) (dv : Dis x v) (dw : Dis x w) :
    ∃ h1, sealA h x = some (LI r, h1) ∧ FF c P T v w h1 ∧ ∀ y ys, Own (e1 I) 1 h y ys → Dis x y → Own (e1 I) 1 h1 y ys := by
  obtain ⟨h1, hs, hn, hb⟩ := sealA_Own ox
  have hF := F.nx
  exact ⟨h1, hs, ⟨by omega, (hb 0 (own_ne ox F.b0)).trans F.b0, (hb 1 (own_ne ox F.b1)).trans F.b1, (hb 2 (own_ne ox F.b2)).trans F.b2, Own.keepX F.ov (by omega) (fun i _ hne => hb i hne) dv, Own.keepX F.ow (by omega) (fun i _ hne => hb i hne) dw, F.d⟩,
    fun y ys oy dy => Own.keepX oy (by omega) (fun i _ hne => hb i hne) dy⟩
theorem FF.alloc {c : List AV} {P T : List (List Int)} {v w : AV} (F : FF c P T v w h) (r : List Int) : FF c P T v w (h.alloc (.cells false true (r.flatMap (e1 I)))) ∧ Own (e1 I) 1 (h.alloc (.cells false true (r.flatMap (e1 I)))) (.sl h.nx 0 r.length 1) r ∧ Dis (.sl h.nx 0 r.length 1) v ∧ Dis (.sl h.nx 0 r.length 1) w ∧
    ∀ y ys, Own (e1 I) 1 h y ys → Own (e1 I) 1 (h.alloc (.cells false true (r.flatMap (e1 I)))) y ys ∧ Dis y (.sl h.nx 0 r.length 1) := by
  have hF := F.nx
  have hb : ∀ i, i < h.nx → (h.alloc (.cells false true (r.flatMap (e1 I)))).bl i = h.bl i := fun i hi => by simp [Hp.alloc, show ¬ i = h.nx by omega]
  have hn : (h.alloc (.cells false true (r.flatMap (e1 I)))).nx = h.nx + 1 := rfl
  exact ⟨⟨by omega, (hb 0 (by omega)).trans F.b0, (hb 1 (by omega)).trans F.b1, (hb 2 (by omega)).trans F.b2, F.ov.mono (by omega) hb, F.ow.mono (by omega) hb, F.d⟩, .inr ⟨h.nx, rfl, by omega, by simp [Hp.alloc]⟩,
    F.ov.dis r.length 1, F.ow.dis r.length 1, fun y ys oy => ⟨oy.mono (by omega) hb, (oy.dis r.length 1).symm⟩⟩
theorem clone_con (r : List Int) (hr : r.length ≤ 10) : Con Try.prog cfgX 66 [LI r] (.fresh 1 (r.flatMap (e1 I))) := by
  cases r with
  | nil => exact clone_nil
  | cons a r => exact lift66 (fun h => by simp at h) (f66_con (a :: r) (by simp) hr)

theorem f70_con (p t : List (List Int)) (N : Net p t) (v : Nat) (hv : v < p.length) (x : Int) (hx : 0 ≤ x ∧ x ≤ 1) : Con Try.prog cfgX 70 [.agg [LLI p, LLI t, I p.length], I v, I x] (.agg [LLI (forceP p v), LLI (forceT p t v x)]) := by
  have hn1 := N.n1
  refine Con_intro Try.func70 rfl okX70 (Nat.le_of_ble_eq_true rfl) rfl ?_
  simp only [Try.f70, Option.getD_some, initSt3]
  simp (disch := first | (simp only [go_sem, Bool.and_self, eq_self]; done) | omega | (simp only [List.length_cons, List.length_nil]; omega)) only [go_sem, ↓reduceIte, Nat.reduceEqDiff, Nat.reduceAdd, Nat.reduceMul, Nat.reduceSub, Int.reduceToNat, Nat.reduceBEq, List.size_toArray, List.length_cons, List.length_nil, Bool.false_and, Bool.true_and, Bool.or_false, Bool.false_or, Bool.and_false, Bool.and_true]
  refine WP_cut (fun st h => st 1 = I v ∧ st 2 = I x ∧ st 3 = .ptr 0 0 ∧ st 6 = .ptr 1 0 ∧ st 7 = .ptr 2 0 ∧ st 10 = I p.length ∧ ∃ a b, FF [LLI p, LLI t, I p.length] (forceP p v) (forceT p t v x) a b h) ?_ ?_
  · refine WP_for 11 p.length (fun i st h => st 1 = I v ∧ st 2 = I x ∧ st 3 = .ptr 0 0 ∧ st 6 = .ptr 1 0 ∧ st 7 = .ptr 2 0 ∧ st 10 = I p.length ∧ ∃ a b, FF [LLI p, LLI t, I p.length] ((List.range i).map (rowFP p v)) ((List.range i).map (rowFT t v x)) a b h) (by simp (disch := first | (simp only [go_sem, Bool.and_self, eq_self]; done) | omega | (simp only [List.length_cons, List.length_nil]; omega)) only [go_sem, ↓reduceIte, Nat.reduceEqDiff, Nat.reduceAdd, Nat.reduceMul, Nat.reduceSub, Int.reduceToNat, Nat.reduceBEq, List.size_toArray, List.length_cons, List.length_nil, Bool.false_and, Bool.true_and, Bool.or_false, Bool.false_or, Bool.and_false, Bool.and_true]) ⟨by simp (disch := first | (simp only [go_sem, Bool.and_self, eq_self]; done) | omega | (simp only [List.length_cons, List.length_nil]; omega)) only [go_sem, ↓reduceIte, Nat.reduceEqDiff, Nat.reduceAdd, Nat.reduceMul, Nat.reduceSub, Int.reduceToNat, Nat.reduceBEq, List.size_toArray, List.length_cons, List.length_nil, Bool.false_and, Bool.true_and, Bool.or_false, Bool.false_or, Bool.and_false, Bool.and_true], by simp (disch := first | (simp only [go_sem, Bool.and_self, eq_self]; done) | omega | (simp only [List.length_cons, List.length_nil]; omega)) only [go_sem, ↓reduceIte, Nat.reduceEqDiff, Nat.reduceAdd, Nat.reduceMul, Nat.reduceSub, Int.reduceToNat, Nat.reduceBEq, List.size_toArray, List.length_cons, List.length_nil, Bool.false_and, Bool.true_and, Bool.or_false, Bool.false_or, Bool.and_false, Bool.and_true], by simp (disch := first | (simp only [go_sem, Bool.and_self, eq_self]; done) | omega | (simp only [List.length_cons, List.length_nil]; omega)) only [go_sem, ↓reduceIte, Nat.reduceEqDiff, Nat.reduceAdd, Nat.reduceMul, Nat.reduceSub, Int.reduceToNat, Nat.reduceBEq, List.size_toArray, List.length_cons, List.length_nil, Bool.false_and, Bool.true_and, Bool.or_false, Bool.false_or, Bool.and_false, Bool.and_true], by simp (disch := first | (simp only [go_sem, Bool.and_self, eq_self]; done) | omega | (simp only [List.length_cons, List.length_nil]; omega)) only [go_sem, ↓reduceIte, Nat.reduceEqDiff, Nat.reduceAdd, Nat.reduceMul, Nat.reduceSub, Int.reduceToNat, Nat.reduceBEq, List.size_toArray, List.length_cons, List.length_nil, Bool.false_and, Bool.true_and, Bool.or_false, Bool.false_or, Bool.and_false, Bool.and_true], by simp (disch := first | (simp only [go_sem, Bool.and_self, eq_self]; done) | omega | (simp only [List.length_cons, List.length_nil]; omega)) only [go_sem, ↓reduceIte, Nat.reduceEqDiff, Nat.reduceAdd, Nat.reduceMul, Nat.reduceSub, Int.reduceToNat, Nat.reduceBEq, List.size_toArray, List.length_cons, List.length_nil, Bool.false_and, Bool.true_and, Bool.or_false, Bool.false_or, Bool.and_false, Bool.and_true], by simp (disch := first | (simp only [go_sem, Bool.and_self, eq_self]; done) | omega | (simp only [List.length_cons, List.length_nil]; omega)) only [go_sem, ↓reduceIte, Nat.reduceEqDiff, Nat.reduceAdd, Nat.reduceMul, Nat.reduceSub, Int.reduceToNat, Nat.reduceBEq, List.size_toArray, List.length_cons, List.length_nil, Bool.false_and, Bool.true_and, Bool.or_false, Bool.false_or, Bool.and_false, Bool.and_true], .nil, .nil, by simp (disch := first | (simp only [go_sem, Bool.and_self, eq_self]; done) | omega | (simp only [List.length_cons, List.length_nil]; omega)) only [go_sem, ↓reduceIte, Nat.reduceEqDiff, Nat.reduceAdd, Nat.reduceMul, Nat.reduceSub, Int.reduceToNat, Nat.reduceBEq, List.size_toArray, List.length_cons, List.length_nil, Bool.false_and, Bool.true_and, Bool.or_false, Bool.false_or, Bool.and_false, Bool.and_true]; decide, by simp (disch := first | (simp only [go_sem, Bool.and_self, eq_self]; done) | omega | (simp only [List.length_cons, List.length_nil]; omega)) only [go_sem, ↓reduceIte, Nat.reduceEqDiff, Nat.reduceAdd, Nat.reduceMul, Nat.reduceSub, Int.reduceToNat, Nat.reduceBEq, List.size_toArray, List.length_cons, List.length_nil, Bool.false_and, Bool.true_and, Bool.or_false, Bool.false_or, Bool.and_false, Bool.and_true], by simp (disch := first | (simp only [go_sem, Bool.and_self, eq_self]; done) | omega | (simp only [List.length_cons, List.length_nil]; omega)) only [go_sem, ↓reduceIte, Nat.reduceEqDiff, Nat.reduceAdd, Nat.reduceMul, Nat.reduceSub, Int.reduceToNat, Nat.reduceBEq, List.size_toArray, List.length_cons, List.length_nil, Bool.false_and, Bool.true_and, Bool.or_false, Bool.false_or, Bool.and_false, Bool.and_true], by simp (disch := first | (simp only [go_sem, Bool.and_self, eq_self]; done) | omega | (simp only [List.length_cons, List.length_nil]; omega)) only [go_sem, ↓reduceIte, Nat.reduceEqDiff, Nat.reduceAdd, Nat.reduceMul, Nat.reduceSub, Int.reduceToNat, Nat.reduceBEq, List.size_toArray, List.length_cons, List.length_nil, Bool.false_and, Bool.true_and, Bool.or_false, Bool.false_or, Bool.and_false, Bool.and_true], .inl ⟨rfl, rfl⟩, .inl ⟨rfl, rfl⟩, Dis.nil_l _⟩ ?_
    rintro i st h hi s11 ⟨s1, s2, s3, s6, s7, s10, a, b, F⟩
    by_cases hlt : i < p.length
    case neg =>
      have hii : i = p.length := by omega
      simp (disch := first | (simp only [go_sem, Bool.and_self, eq_self]; done) | omega | (simp only [List.length_cons, List.length_nil]; omega)) only [go_sem, ↓reduceIte, Nat.reduceEqDiff, Nat.reduceAdd, Nat.reduceMul, Nat.reduceSub, Int.reduceToNat, Nat.reduceBEq, List.size_toArray, List.length_cons, List.length_nil, Bool.false_and, Bool.true_and, Bool.or_false, Bool.false_or, Bool.and_false, Bool.and_true, s1, s2, s3, s6, s7, s10, s11, hlt]
      rw [hii] at F
      exact ⟨a, b, F⟩
    have b0 := F.b0
    have b2 := F.b2
    have hnx := F.nx
    have hca := own_cell F.ov
    have hcb := own_cell F.ow
    by_cases hiv : i = v
    · subst hiv
      have r1 : rowFP p i i = [] := by simp [rowFP]
      have r2 : rowFT t i x i = [16 * x] := by simp [rowFT]
      have hbs := fun h => bsB_one (P := Try.prog) 25 .nil (LI []) .nil h isz25 izero25 rfl rfl rfl rfl rfl rfl (pure_L _)
      have hbs1 := fun h => bsB_one (P := Try.prog) 3 (I (16 * x)) (I (16 * x)) (I 0) h isz3 izero3 rfl rfl rfl rfl rfl rfl rfl
      have hbs2 : ∀ h, bsB Try.prog h (some (.slice 25)) 1 [(0, .lst [[I (16 * x)]])] = some (.lst [[LI [16 * x]]], h) := fun h => bsB_one (P := Try.prog) 25 (LI [16 * x]) (LI [16 * x]) .nil h isz25 izero25 rfl rfl rfl (sealA_L _) rfl rfl (pure_L _)
      obtain ⟨G, V, g1, g2, g3, g4, g5, g6, F2, _⟩ := F.step1 [] (by simp; omega)
      have d2 := F2.b2
      obtain ⟨G', V', k1, k2, k3, k4, k5, k6, F3⟩ := F2.step2 [16 * x] (by simp; omega)
      simp (disch := first | (simp only [go_sem, Bool.and_self, eq_self]; done) | omega | (simp only [List.length_cons, List.length_nil]; omega)) only [go_sem, ↓reduceIte, Nat.reduceEqDiff, Nat.reduceAdd, Nat.reduceMul, Nat.reduceSub, Int.reduceToNat, Nat.reduceBEq, List.size_toArray, List.length_cons, List.length_nil, Bool.false_and, Bool.true_and, Bool.or_false, Bool.false_or, Bool.and_false, Bool.and_true, s1, s2, s3, s6, s7, s10, s11, hlt, eq_self, decide_true, b0, b2, hbs, g1, g5, g6, d2, hbs1, hbs2, k1, k5, k6, hca, hcb]
      rw [ForK_normal]
      refine ⟨hlt, by simp (disch := first | (simp only [go_sem, Bool.and_self, eq_self]; done) | omega | (simp only [List.length_cons, List.length_nil]; omega)) only [go_sem, ↓reduceIte, Nat.reduceEqDiff, Nat.reduceAdd, Nat.reduceMul, Nat.reduceSub, Int.reduceToNat, Nat.reduceBEq, List.size_toArray, List.length_cons, List.length_nil, Bool.false_and, Bool.true_and, Bool.or_false, Bool.false_or, Bool.and_false, Bool.and_true, s11], by simp (disch := first | (simp only [go_sem, Bool.and_self, eq_self]; done) | omega | (simp only [List.length_cons, List.length_nil]; omega)) only [go_sem, ↓reduceIte, Nat.reduceEqDiff, Nat.reduceAdd, Nat.reduceMul, Nat.reduceSub, Int.reduceToNat, Nat.reduceBEq, List.size_toArray, List.length_cons, List.length_nil, Bool.false_and, Bool.true_and, Bool.or_false, Bool.false_or, Bool.and_false, Bool.and_true, s1], by simp (disch := first | (simp only [go_sem, Bool.and_self, eq_self]; done) | omega | (simp only [List.length_cons, List.length_nil]; omega)) only [go_sem, ↓reduceIte, Nat.reduceEqDiff, Nat.reduceAdd, Nat.reduceMul, Nat.reduceSub, Int.reduceToNat, Nat.reduceBEq, List.size_toArray, List.length_cons, List.length_nil, Bool.false_and, Bool.true_and, Bool.or_false, Bool.false_or, Bool.and_false, Bool.and_true, s2], by simp (disch := first | (simp only [go_sem, Bool.and_self, eq_self]; done) | omega | (simp only [List.length_cons, List.length_nil]; omega)) only [go_sem, ↓reduceIte, Nat.reduceEqDiff, Nat.reduceAdd, Nat.reduceMul, Nat.reduceSub, Int.reduceToNat, Nat.reduceBEq, List.size_toArray, List.length_cons, List.length_nil, Bool.false_and, Bool.true_and, Bool.or_false, Bool.false_or, Bool.and_false, Bool.and_true, s3], by simp (disch := first | (simp only [go_sem, Bool.and_self, eq_self]; done) | omega | (simp only [List.length_cons, List.length_nil]; omega)) only [go_sem, ↓reduceIte, Nat.reduceEqDiff, Nat.reduceAdd, Nat.reduceMul, Nat.reduceSub, Int.reduceToNat, Nat.reduceBEq, List.size_toArray, List.length_cons, List.length_nil, Bool.false_and, Bool.true_and, Bool.or_false, Bool.false_or, Bool.and_false, Bool.and_true, s6], by simp (disch := first | (simp only [go_sem, Bool.and_self, eq_self]; done) | omega | (simp only [List.length_cons, List.length_nil]; omega)) only [go_sem, ↓reduceIte, Nat.reduceEqDiff, Nat.reduceAdd, Nat.reduceMul, Nat.reduceSub, Int.reduceToNat, Nat.reduceBEq, List.size_toArray, List.length_cons, List.length_nil, Bool.false_and, Bool.true_and, Bool.or_false, Bool.false_or, Bool.and_false, Bool.and_true, s7], by simp (disch := first | (simp only [go_sem, Bool.and_self, eq_self]; done) | omega | (simp only [List.length_cons, List.length_nil]; omega)) only [go_sem, ↓reduceIte, Nat.reduceEqDiff, Nat.reduceAdd, Nat.reduceMul, Nat.reduceSub, Int.reduceToNat, Nat.reduceBEq, List.size_toArray, List.length_cons, List.length_nil, Bool.false_and, Bool.true_and, Bool.or_false, Bool.false_or, Bool.and_false, Bool.and_true, s10], V, V', ?_⟩
      rw [← rows_snoc, ← rows_snoc, r1, r2]
      exact F3
    · have hiv' : ¬ (i : Int) = v := by omega
      have r1 : rowFP p v i = nth p i := by simp [rowFP, hiv]
      have r2 : rowFT t v x i = nth t i := by simp [rowFT, hiv]
      have cl1 := fun h h' K => ConW_any (h := h) (h' := h') (K := K) (clone_con (nth p i) (by have := N.pl i hlt; omega)) rfl
      have cl2 := fun h h' K => ConW_any (h := h) (h' := h') (K := K) (clone_con (nth t i) (by have := N.tt i hlt; have h1 := N.pl i hlt; have h8 : 2 ^ (nth p i).length ≤ 2 ^ 3 := Nat.pow_le_pow_right (by decide) h1; omega)) rfl
      obtain ⟨h1, hs1, F1⟩ := F.clone (nth p i)
      have hbs1 := bsB_one (P := Try.prog) 25 _ (LI (nth p i)) .nil h1 isz25 izero25 rfl rfl rfl hs1 rfl rfl (pure_L _)
      obtain ⟨G, V, g1, g2, g3, g4, g5, g6, F2, _⟩ := F1.step1 (nth p i) (by simp; omega)
      have e0 := F2.b0
      have e2 := F2.b2
      have en := F2.nx
      obtain ⟨h2, hs2, F3⟩ := F2.clone (nth t i)
      have hbs2 := bsB_one (P := Try.prog) 25 _ (LI (nth t i)) .nil h2 isz25 izero25 rfl rfl rfl hs2 rfl rfl (pure_L _)
      obtain ⟨G', V', k1, k2, k3, k4, k5, k6, F4⟩ := F3.step2 (nth t i) (by simp; omega)
      rw [put_nx] at hbs2
      have l0 : 0 < h.nx := by omega
      have l2 : 2 < h.nx := by omega
      have hGn : (G.put 2 (some (.cells false false [V, b]))).nx = G.nx := rfl
      have m0 : 0 < G.nx := by omega
      have m2 : 2 < G.nx := by omega
      have hti : i < t.length := by have := N.tl; omega
      simp (disch := first | (simp only [go_sem, Bool.and_self, eq_self]; done) | omega | (simp only [List.length_cons, List.length_nil]; omega)) only [go_sem, ↓reduceIte, Nat.reduceEqDiff, Nat.reduceAdd, Nat.reduceMul, Nat.reduceSub, Int.reduceToNat, Nat.reduceBEq, List.size_toArray, List.length_cons, List.length_nil, Bool.false_and, Bool.true_and, Bool.or_false, Bool.false_or, Bool.and_false, Bool.and_true, s1, s2, s3, s6, s7, s10, s11, hlt, hiv', b0, b2, cl1, cl2, hbs1, hbs2, g1, g4, g5, g6, e0, e2, k1, k5, k6, hca, hcb, l0, l2, m0, m2, hti]
      rw [ForK_normal]
      refine ⟨hlt, by simp (disch := first | (simp only [go_sem, Bool.and_self, eq_self]; done) | omega | (simp only [List.length_cons, List.length_nil]; omega)) only [go_sem, ↓reduceIte, Nat.reduceEqDiff, Nat.reduceAdd, Nat.reduceMul, Nat.reduceSub, Int.reduceToNat, Nat.reduceBEq, List.size_toArray, List.length_cons, List.length_nil, Bool.false_and, Bool.true_and, Bool.or_false, Bool.false_or, Bool.and_false, Bool.and_true, s11], by simp (disch := first | (simp only [go_sem, Bool.and_self, eq_self]; done) | omega | (simp only [List.length_cons, List.length_nil]; omega)) only [go_sem, ↓reduceIte, Nat.reduceEqDiff, Nat.reduceAdd, Nat.reduceMul, Nat.reduceSub, Int.reduceToNat, Nat.reduceBEq, List.size_toArray, List.length_cons, List.length_nil, Bool.false_and, Bool.true_and, Bool.or_false, Bool.false_or, Bool.and_false, Bool.and_true, s1], by simp (disch := first | (simp only [go_sem, Bool.and_self, eq_self]; done) | omega | (simp only [List.length_cons, List.length_nil]; omega)) only [go_sem, ↓reduceIte, Nat.reduceEqDiff, Nat.reduceAdd, Nat.reduceMul, Nat.reduceSub, Int.reduceToNat, Nat.reduceBEq, List.size_toArray, List.length_cons, List.length_nil, Bool.false_and, Bool.true_and, Bool.or_false, Bool.false_or, Bool.and_false, Bool.and_true, s2], by simp (disch := first | (simp only [go_sem, Bool.and_self, eq_self]; done) | omega | (simp only [List.length_cons, List.length_nil]; omega)) only [go_sem, ↓reduceIte, Nat.reduceEqDiff, Nat.reduceAdd, Nat.reduceMul, Nat.reduceSub, Int.reduceToNat, Nat.reduceBEq, List.size_toArray, List.length_cons, List.length_nil, Bool.false_and, Bool.true_and, Bool.or_false, Bool.false_or, Bool.and_false, Bool.and_true, s3], by simp (disch := first | (simp only [go_sem, Bool.and_self, eq_self]; done) | omega | (simp only [List.length_cons, List.length_nil]; omega)) only [go_sem, ↓reduceIte, Nat.reduceEqDiff, Nat.reduceAdd, Nat.reduceMul, Nat.reduceSub, Int.reduceToNat, Nat.reduceBEq, List.size_toArray, List.length_cons, List.length_nil, Bool.false_and, Bool.true_and, Bool.or_false, Bool.false_or, Bool.and_false, Bool.and_true, s6], by simp (disch := first | (simp only [go_sem, Bool.and_self, eq_self]; done) | omega | (simp only [List.length_cons, List.length_nil]; omega)) only [go_sem, ↓reduceIte, Nat.reduceEqDiff, Nat.reduceAdd, Nat.reduceMul, Nat.reduceSub, Int.reduceToNat, Nat.reduceBEq, List.size_toArray, List.length_cons, List.length_nil, Bool.false_and, Bool.true_and, Bool.or_false, Bool.false_or, Bool.and_false, Bool.and_true, s7], by simp (disch := first | (simp only [go_sem, Bool.and_self, eq_self]; done) | omega | (simp only [List.length_cons, List.length_nil]; omega)) only [go_sem, ↓reduceIte, Nat.reduceEqDiff, Nat.reduceAdd, Nat.reduceMul, Nat.reduceSub, Int.reduceToNat, Nat.reduceBEq, List.size_toArray, List.length_cons, List.length_nil, Bool.false_and, Bool.true_and, Bool.or_false, Bool.false_or, Bool.and_false, Bool.and_true, s10], V, V', ?_⟩
      rw [← rows_snoc, ← rows_snoc, r1, r2]
      exact F4
  · rintro st h ⟨s1, s2, s3, s6, s7, s10, a, b, F⟩
    have b1 := F.b1
    have b2 := F.b2
    have hca := own_cell F.ov
    have hcb := own_cell F.ow
    have o1 := own_put F.ov b1 (some (.cells false false [a, b]))
    have o2 := own_put F.ow b1 (some (.cells false false [a, b]))
    have hne : forceP p v ≠ [] := fun e => by
      have := congrArg List.length e
      simp only [forceP, List.length_map, List.length_range, List.length_nil] at this; omega
    have hne2 : forceT p t v x ≠ [] := fun e => by
      have := congrArg List.length e
      simp only [forceT, List.length_map, List.length_range, List.length_nil] at this; omega
    have hex := export_net 24 o1 o2 F.d (fun e => absurd e hne) (fun e => absurd e hne2)
    rw [netV_cons (fun e => hne e.1)] at hex
    simp (disch := first | (simp only [go_sem, Bool.and_self, eq_self]; done) | omega | (simp only [List.length_cons, List.length_nil]; omega)) only [go_sem, ↓reduceIte, Nat.reduceEqDiff, Nat.reduceAdd, Nat.reduceMul, Nat.reduceSub, Int.reduceToNat, Nat.reduceBEq, List.size_toArray, List.length_cons, List.length_nil, Bool.false_and, Bool.true_and, Bool.or_false, Bool.false_or, Bool.and_false, Bool.and_true, s1, s2, s3, s6, s7, s10, b1, b2, hca, hcb, hex]

end Go.Proofs.Ytpkakapbepkfdaa

set_option linter.unusedVariables false
set_option linter.unusedSimpArgs false
set_option maxRecDepth 10000
namespace Go.Proofs.Ytpkakapbepkfdaa
open Go Go.Am

variable {h h' : Hp} {K : AV → Hp → Prop}

theorem f44_con (p t : List (List Int)) (N : Net p t) (v : Nat) (hv : v < p.length) (x : Int) (hx : 0 ≤ x ∧ x ≤ 1) : Con Try.prog cfg 44 [.agg [LLI p, LLI t], I v, I x] (.agg [LLI (forceP p v), LLI (forceT p t v x)]) := by
  have hn1 := N.n1
  refine Con_intro Try.func44 rfl ok44 (Nat.le_of_ble_eq_true rfl) rfl ?_
  simp only [Try.f44, Option.getD_some, initSt3]
  simp (disch := first | (simp only [go_sem, Bool.and_self, eq_self]; done) | omega | (simp only [List.length_cons, List.length_nil]; omega)) only [go_sem, ↓reduceIte, Nat.reduceEqDiff, Nat.reduceAdd, Nat.reduceMul, Nat.reduceSub, Int.reduceToNat, Nat.reduceBEq, List.size_toArray, List.length_cons, List.length_nil, Bool.false_and, Bool.true_and, Bool.or_false, Bool.false_or, Bool.and_false, Bool.and_true]
  refine WP_cut (fun st h => st 1 = I v ∧ st 2 = I x ∧ st 3 = .ptr 0 0 ∧ st 6 = .ptr 1 0 ∧ st 7 = .ptr 2 0 ∧ ∃ a b, FF [LLI p, LLI t] (forceP p v) (forceT p t v x) a b h) ?_ ?_
  · refine WP_for 8 p.length (fun i st h => st 1 = I v ∧ st 2 = I x ∧ st 3 = .ptr 0 0 ∧ st 6 = .ptr 1 0 ∧ st 7 = .ptr 2 0 ∧ ∃ a b, FF [LLI p, LLI t] ((List.range i).map (rowFP p v)) ((List.range i).map (rowFT t v x)) a b h) (by simp (disch := first | (simp only [go_sem, Bool.and_self, eq_self]; done) | omega | (simp only [List.length_cons, List.length_nil]; omega)) only [go_sem, ↓reduceIte, Nat.reduceEqDiff, Nat.reduceAdd, Nat.reduceMul, Nat.reduceSub, Int.reduceToNat, Nat.reduceBEq, List.size_toArray, List.length_cons, List.length_nil, Bool.false_and, Bool.true_and, Bool.or_false, Bool.false_or, Bool.and_false, Bool.and_true]) ⟨by simp (disch := first | (simp only [go_sem, Bool.and_self, eq_self]; done) | omega | (simp only [List.length_cons, List.length_nil]; omega)) only [go_sem, ↓reduceIte, Nat.reduceEqDiff, Nat.reduceAdd, Nat.reduceMul, Nat.reduceSub, Int.reduceToNat, Nat.reduceBEq, List.size_toArray, List.length_cons, List.length_nil, Bool.false_and, Bool.true_and, Bool.or_false, Bool.false_or, Bool.and_false, Bool.and_true], by simp (disch := first | (simp only [go_sem, Bool.and_self, eq_self]; done) | omega | (simp only [List.length_cons, List.length_nil]; omega)) only [go_sem, ↓reduceIte, Nat.reduceEqDiff, Nat.reduceAdd, Nat.reduceMul, Nat.reduceSub, Int.reduceToNat, Nat.reduceBEq, List.size_toArray, List.length_cons, List.length_nil, Bool.false_and, Bool.true_and, Bool.or_false, Bool.false_or, Bool.and_false, Bool.and_true], by simp (disch := first | (simp only [go_sem, Bool.and_self, eq_self]; done) | omega | (simp only [List.length_cons, List.length_nil]; omega)) only [go_sem, ↓reduceIte, Nat.reduceEqDiff, Nat.reduceAdd, Nat.reduceMul, Nat.reduceSub, Int.reduceToNat, Nat.reduceBEq, List.size_toArray, List.length_cons, List.length_nil, Bool.false_and, Bool.true_and, Bool.or_false, Bool.false_or, Bool.and_false, Bool.and_true], by simp (disch := first | (simp only [go_sem, Bool.and_self, eq_self]; done) | omega | (simp only [List.length_cons, List.length_nil]; omega)) only [go_sem, ↓reduceIte, Nat.reduceEqDiff, Nat.reduceAdd, Nat.reduceMul, Nat.reduceSub, Int.reduceToNat, Nat.reduceBEq, List.size_toArray, List.length_cons, List.length_nil, Bool.false_and, Bool.true_and, Bool.or_false, Bool.false_or, Bool.and_false, Bool.and_true], by simp (disch := first | (simp only [go_sem, Bool.and_self, eq_self]; done) | omega | (simp only [List.length_cons, List.length_nil]; omega)) only [go_sem, ↓reduceIte, Nat.reduceEqDiff, Nat.reduceAdd, Nat.reduceMul, Nat.reduceSub, Int.reduceToNat, Nat.reduceBEq, List.size_toArray, List.length_cons, List.length_nil, Bool.false_and, Bool.true_and, Bool.or_false, Bool.false_or, Bool.and_false, Bool.and_true], .nil, .nil, by simp (disch := first | (simp only [go_sem, Bool.and_self, eq_self]; done) | omega | (simp only [List.length_cons, List.length_nil]; omega)) only [go_sem, ↓reduceIte, Nat.reduceEqDiff, Nat.reduceAdd, Nat.reduceMul, Nat.reduceSub, Int.reduceToNat, Nat.reduceBEq, List.size_toArray, List.length_cons, List.length_nil, Bool.false_and, Bool.true_and, Bool.or_false, Bool.false_or, Bool.and_false, Bool.and_true]; decide, by simp (disch := first | (simp only [go_sem, Bool.and_self, eq_self]; done) | omega | (simp only [List.length_cons, List.length_nil]; omega)) only [go_sem, ↓reduceIte, Nat.reduceEqDiff, Nat.reduceAdd, Nat.reduceMul, Nat.reduceSub, Int.reduceToNat, Nat.reduceBEq, List.size_toArray, List.length_cons, List.length_nil, Bool.false_and, Bool.true_and, Bool.or_false, Bool.false_or, Bool.and_false, Bool.and_true], by simp (disch := first | (simp only [go_sem, Bool.and_self, eq_self]; done) | omega | (simp only [List.length_cons, List.length_nil]; omega)) only [go_sem, ↓reduceIte, Nat.reduceEqDiff, Nat.reduceAdd, Nat.reduceMul, Nat.reduceSub, Int.reduceToNat, Nat.reduceBEq, List.size_toArray, List.length_cons, List.length_nil, Bool.false_and, Bool.true_and, Bool.or_false, Bool.false_or, Bool.and_false, Bool.and_true], by simp (disch := first | (simp only [go_sem, Bool.and_self, eq_self]; done) | omega | (simp only [List.length_cons, List.length_nil]; omega)) only [go_sem, ↓reduceIte, Nat.reduceEqDiff, Nat.reduceAdd, Nat.reduceMul, Nat.reduceSub, Int.reduceToNat, Nat.reduceBEq, List.size_toArray, List.length_cons, List.length_nil, Bool.false_and, Bool.true_and, Bool.or_false, Bool.false_or, Bool.and_false, Bool.and_true], .inl ⟨rfl, rfl⟩, .inl ⟨rfl, rfl⟩, Dis.nil_l _⟩ ?_
    rintro i st h hi s8 ⟨s1, s2, s3, s6, s7, a, b, F⟩
    have b0 := F.b0
    by_cases hlt : i < p.length
    case neg =>
      have hii : i = p.length := by omega
      simp (disch := first | (simp only [go_sem, Bool.and_self, eq_self]; done) | omega | (simp only [List.length_cons, List.length_nil]; omega)) only [go_sem, ↓reduceIte, Nat.reduceEqDiff, Nat.reduceAdd, Nat.reduceMul, Nat.reduceSub, Int.reduceToNat, Nat.reduceBEq, List.size_toArray, List.length_cons, List.length_nil, Bool.false_and, Bool.true_and, Bool.or_false, Bool.false_or, Bool.and_false, Bool.and_true, s1, s2, s3, s6, s7, s8, hlt, b0]
      rw [hii] at F
      exact ⟨a, b, F⟩
    have b2 := F.b2
    have hnx := F.nx
    have l2 : 2 < h.nx := by omega
    -- what the two rows are, and where they lie
    have fin : ∀ (y z : AV) (h' : Hp) (r s : List Int), FF [LLI p, LLI t] ((List.range i).map (rowFP p v)) ((List.range i).map (rowFT t v x)) a b h' → Own (e1 I) 1 h' y r → Own (e1 I) 1 h' z s → Dis y a → Dis y b → Dis z a → Dis z b → Dis y z → r = rowFP p v i → s = rowFT t v x i →
        ∃ h1 G V h2 G' V', bsB Try.prog h' (some (.slice 25)) 1 [(0, y)] = some (.lst [[LI r]], h1) ∧ appB Try.prog h1 (some (.slice 25)) true a (.lst [[LI r]]) = some (V, G) ∧ G.bl 2 = some (.cells false false [a, b]) ∧ V.isCell = true ∧ (∀ g, storeC g 2 0 1 (some (.cells false false [a, b])) V.cells = some (.skp, g.put 2 (some (.cells false false [V, b])))) ∧
          bsB Try.prog (G.put 2 (some (.cells false false [V, b]))) (some (.slice 25)) 1 [(0, z)] = some (.lst [[LI s]], h2) ∧ appB Try.prog h2 (some (.slice 25)) true b (.lst [[LI s]]) = some (V', G') ∧ G'.bl 2 = some (.cells false false [V, b]) ∧ V'.isCell = true ∧ (∀ g, storeC g 2 1 1 (some (.cells false false [V, b])) V'.cells = some (.skp, g.put 2 (some (.cells false false [V, V'])))) ∧
          FF [LLI p, LLI t] ((List.range (i + 1)).map (rowFP p v)) ((List.range (i + 1)).map (rowFT t v x)) V V' (G'.put 2 (some (.cells false false [V, V']))) := by
      rintro y z h' r s F oy oz dya dyb dza dzb dyz rfl rfl
      obtain ⟨h1, s1, F1, k1⟩ := F.shut oy dya dyb
      have oz1 := k1 z _ oz dyz
      obtain ⟨G, V, g1, g2, g3, g4, g5, g6, F2, k2⟩ := F1.step1 (rowFP p v i) (by simp; omega)
      obtain ⟨oz2, dVz⟩ := k2 z _ oz1 dza.symm
      obtain ⟨h2, s2, F3, k3⟩ := F2.shut oz2 dVz.symm dzb
      obtain ⟨G', V', e1', e2, e3, e4, e5, e6, F4⟩ := F3.step2 (rowFT t v x i) (by simp; omega)
      rw [rows_snoc, rows_snoc] at F4
      exact ⟨h1, G, V, h2, G', V', bsB_one (P := Try.prog) 25 y (LI (rowFP p v i)) .nil h1 isz25 izero25 rfl rfl rfl s1 rfl rfl (pure_L _), g1, g5, g2, g6, bsB_one (P := Try.prog) 25 z (LI (rowFT t v x i)) .nil h2 isz25 izero25 rfl rfl rfl s2 rfl rfl (pure_L _), e1', e5, e2, e6, F4⟩
    have hca := own_cell F.ov
    have hcb := own_cell F.ow
    by_cases hiv : i = v
    · subst hiv
      have r1 : rowFP p i i = [] := by simp [rowFP]
      have r2 : rowFT t i x i = [16 * x] := by simp [rowFT]
      have hbs1 := fun h => bsB_one (P := Try.prog) 3 (I (16 * x)) (I (16 * x)) (I 0) h isz3 izero3 rfl rfl rfl rfl rfl rfl rfl
      have happ := fun h => app_nil (P := Try.prog) (h := h) (f := e1 I) 3 8 (I 0) (.lst [[I (16 * x)]]) [16 * x] isz3 ibytes3 izero3 rfl rfl rfl (by simp) (by simp)
      obtain ⟨Fa, oz, da, db, _⟩ := F.alloc [16 * x]
      obtain ⟨h1, G, V, h2, G', V', q1, q2, q3, q4, q5, q6, q7, q8, q9, q10, F4⟩ := fin .nil (.sl h.nx 0 1 1) _ [] [16 * x] Fa (.inl ⟨rfl, rfl⟩) oz (Dis.nil_l _) (Dis.nil_l _) da db (Dis.nil_l _) r1.symm r2.symm
      have u2 : ¬ 2 = h.nx := by omega
      have l2' : 2 < h.nx + 1 := by omega
      simp (disch := first | (simp only [go_sem, Bool.and_self, eq_self]; done) | omega | (simp only [List.length_cons, List.length_nil]; omega)) only [go_sem, ↓reduceIte, Nat.reduceEqDiff, Nat.reduceAdd, Nat.reduceMul, Nat.reduceSub, Int.reduceToNat, Nat.reduceBEq, List.size_toArray, List.length_cons, List.length_nil, Bool.false_and, Bool.true_and, Bool.or_false, Bool.false_or, Bool.and_false, Bool.and_true, s1, s2, s3, s6, s7, s8, hlt, eq_self, decide_true, b0, b2, hbs1, happ, l2, l2', u2, q1, q2, q3, q4, q5, q6, q7, q8, q9, q10, hca, hcb]
      rw [ForK_normal]
      exact ⟨hlt, by simp (disch := first | (simp only [go_sem, Bool.and_self, eq_self]; done) | omega | (simp only [List.length_cons, List.length_nil]; omega)) only [go_sem, ↓reduceIte, Nat.reduceEqDiff, Nat.reduceAdd, Nat.reduceMul, Nat.reduceSub, Int.reduceToNat, Nat.reduceBEq, List.size_toArray, List.length_cons, List.length_nil, Bool.false_and, Bool.true_and, Bool.or_false, Bool.false_or, Bool.and_false, Bool.and_true, s8], by simp (disch := first | (simp only [go_sem, Bool.and_self, eq_self]; done) | omega | (simp only [List.length_cons, List.length_nil]; omega)) only [go_sem, ↓reduceIte, Nat.reduceEqDiff, Nat.reduceAdd, Nat.reduceMul, Nat.reduceSub, Int.reduceToNat, Nat.reduceBEq, List.size_toArray, List.length_cons, List.length_nil, Bool.false_and, Bool.true_and, Bool.or_false, Bool.false_or, Bool.and_false, Bool.and_true, s1], by simp (disch := first | (simp only [go_sem, Bool.and_self, eq_self]; done) | omega | (simp only [List.length_cons, List.length_nil]; omega)) only [go_sem, ↓reduceIte, Nat.reduceEqDiff, Nat.reduceAdd, Nat.reduceMul, Nat.reduceSub, Int.reduceToNat, Nat.reduceBEq, List.size_toArray, List.length_cons, List.length_nil, Bool.false_and, Bool.true_and, Bool.or_false, Bool.false_or, Bool.and_false, Bool.and_true, s2], by simp (disch := first | (simp only [go_sem, Bool.and_self, eq_self]; done) | omega | (simp only [List.length_cons, List.length_nil]; omega)) only [go_sem, ↓reduceIte, Nat.reduceEqDiff, Nat.reduceAdd, Nat.reduceMul, Nat.reduceSub, Int.reduceToNat, Nat.reduceBEq, List.size_toArray, List.length_cons, List.length_nil, Bool.false_and, Bool.true_and, Bool.or_false, Bool.false_or, Bool.and_false, Bool.and_true, s3], by simp (disch := first | (simp only [go_sem, Bool.and_self, eq_self]; done) | omega | (simp only [List.length_cons, List.length_nil]; omega)) only [go_sem, ↓reduceIte, Nat.reduceEqDiff, Nat.reduceAdd, Nat.reduceMul, Nat.reduceSub, Int.reduceToNat, Nat.reduceBEq, List.size_toArray, List.length_cons, List.length_nil, Bool.false_and, Bool.true_and, Bool.or_false, Bool.false_or, Bool.and_false, Bool.and_true, s6], by simp (disch := first | (simp only [go_sem, Bool.and_self, eq_self]; done) | omega | (simp only [List.length_cons, List.length_nil]; omega)) only [go_sem, ↓reduceIte, Nat.reduceEqDiff, Nat.reduceAdd, Nat.reduceMul, Nat.reduceSub, Int.reduceToNat, Nat.reduceBEq, List.size_toArray, List.length_cons, List.length_nil, Bool.false_and, Bool.true_and, Bool.or_false, Bool.false_or, Bool.and_false, Bool.and_true, s7], V, V', F4⟩
    · have hiv' : ¬ (i : Int) = v := by omega
      have r1 : rowFP p v i = nth p i := by simp [rowFP, hiv]
      have r2 : rowFT t v x i = nth t i := by simp [rowFT, hiv]
      have hl1 := N.pl i hlt
      have hl2 : (nth t i).length ≤ 8 := by rw [N.tt i hlt]; exact Nat.pow_le_pow_right (n := 2) (by decide) hl1
      have happ1 := fun h => app_nil (P := Try.prog) (h := h) (f := e1 I) 3 8 (I 0) (LI (nth p i)) (nth p i) isz3 ibytes3 izero3 rfl (cellsOf_L _ _) (lenA_L _ _) (by omega) (by omega)
      have happ2 := fun h => app_nil (P := Try.prog) (h := h) (f := e1 I) 3 8 (I 0) (LI (nth t i)) (nth t i) isz3 ibytes3 izero3 rfl (cellsOf_L _ _) (lenA_L _ _) (by omega) (by omega)
      obtain ⟨Fa, oy, ya, yb, _⟩ := F.alloc (nth p i)
      obtain ⟨Fb, oz, za, zb, k⟩ := Fa.alloc (nth t i)
      obtain ⟨oy2, dyz⟩ := k _ _ oy
      obtain ⟨h1, G, V, h2, G', V', q1, q2, q3, q4, q5, q6, q7, q8, q9, q10, F4⟩ := fin _ _ _ _ _ Fb oy2 oz ya yb za zb dyz r1.symm r2.symm
      rw [alloc_nx] at q6
      have u2 : ¬ 2 = h.nx := by omega
      have u3 : ¬ 2 = h.nx + 1 := by omega
      have u4 : ¬ 0 = h.nx := by omega
      have u5 : ¬ 0 = h.nx + 1 := by omega
      have l2' : 2 < h.nx + 1 + 1 := by omega
      have hti : i < t.length := by have := N.tl; omega
      simp (disch := first | (simp only [go_sem, Bool.and_self, eq_self]; done) | omega | (simp only [List.length_cons, List.length_nil]; omega)) only [go_sem, ↓reduceIte, Nat.reduceEqDiff, Nat.reduceAdd, Nat.reduceMul, Nat.reduceSub, Int.reduceToNat, Nat.reduceBEq, List.size_toArray, List.length_cons, List.length_nil, Bool.false_and, Bool.true_and, Bool.or_false, Bool.false_or, Bool.and_false, Bool.and_true, s1, s2, s3, s6, s7, s8, hlt, hiv', b0, b2, happ1, happ2, l2, l2', u2, u3, u4, u5, q1, q2, q3, q4, q5, q6, q7, q8, q9, q10, hca, hcb, hti]
      rw [ForK_normal]
      exact ⟨hlt, by simp (disch := first | (simp only [go_sem, Bool.and_self, eq_self]; done) | omega | (simp only [List.length_cons, List.length_nil]; omega)) only [go_sem, ↓reduceIte, Nat.reduceEqDiff, Nat.reduceAdd, Nat.reduceMul, Nat.reduceSub, Int.reduceToNat, Nat.reduceBEq, List.size_toArray, List.length_cons, List.length_nil, Bool.false_and, Bool.true_and, Bool.or_false, Bool.false_or, Bool.and_false, Bool.and_true, s8], by simp (disch := first | (simp only [go_sem, Bool.and_self, eq_self]; done) | omega | (simp only [List.length_cons, List.length_nil]; omega)) only [go_sem, ↓reduceIte, Nat.reduceEqDiff, Nat.reduceAdd, Nat.reduceMul, Nat.reduceSub, Int.reduceToNat, Nat.reduceBEq, List.size_toArray, List.length_cons, List.length_nil, Bool.false_and, Bool.true_and, Bool.or_false, Bool.false_or, Bool.and_false, Bool.and_true, s1], by simp (disch := first | (simp only [go_sem, Bool.and_self, eq_self]; done) | omega | (simp only [List.length_cons, List.length_nil]; omega)) only [go_sem, ↓reduceIte, Nat.reduceEqDiff, Nat.reduceAdd, Nat.reduceMul, Nat.reduceSub, Int.reduceToNat, Nat.reduceBEq, List.size_toArray, List.length_cons, List.length_nil, Bool.false_and, Bool.true_and, Bool.or_false, Bool.false_or, Bool.and_false, Bool.and_true, s2], by simp (disch := first | (simp only [go_sem, Bool.and_self, eq_self]; done) | omega | (simp only [List.length_cons, List.length_nil]; omega)) only [go_sem, ↓reduceIte, Nat.reduceEqDiff, Nat.reduceAdd, Nat.reduceMul, Nat.reduceSub, Int.reduceToNat, Nat.reduceBEq, List.size_toArray, List.length_cons, List.length_nil, Bool.false_and, Bool.true_and, Bool.or_false, Bool.false_or, Bool.and_false, Bool.and_true, s3], by simp (disch := first | (simp only [go_sem, Bool.and_self, eq_self]; done) | omega | (simp only [List.length_cons, List.length_nil]; omega)) only [go_sem, ↓reduceIte, Nat.reduceEqDiff, Nat.reduceAdd, Nat.reduceMul, Nat.reduceSub, Int.reduceToNat, Nat.reduceBEq, List.size_toArray, List.length_cons, List.length_nil, Bool.false_and, Bool.true_and, Bool.or_false, Bool.false_or, Bool.and_false, Bool.and_true, s6], by simp (disch := first | (simp only [go_sem, Bool.and_self, eq_self]; done) | omega | (simp only [List.length_cons, List.length_nil]; omega)) only [go_sem, ↓reduceIte, Nat.reduceEqDiff, Nat.reduceAdd, Nat.reduceMul, Nat.reduceSub, Int.reduceToNat, Nat.reduceBEq, List.size_toArray, List.length_cons, List.length_nil, Bool.false_and, Bool.true_and, Bool.or_false, Bool.false_or, Bool.and_false, Bool.and_true, s7], V, V', F4⟩
  · rintro st h ⟨s1, s2, s3, s6, s7, a, b, F⟩
    have b1 := F.b1
    have b2 := F.b2
    have hca := own_cell F.ov
    have hcb := own_cell F.ow
    have o1 := own_put F.ov b1 (some (.cells false false [a, b]))
    have o2 := own_put F.ow b1 (some (.cells false false [a, b]))
    have hne : forceP p v ≠ [] := fun e => by
      have := congrArg List.length e
      simp only [forceP, List.length_map, List.length_range, List.length_nil] at this; omega
    have hne2 : forceT p t v x ≠ [] := fun e => by
      have := congrArg List.length e
      simp only [forceT, List.length_map, List.length_range, List.length_nil] at this; omega
    have hex := export_net 24 o1 o2 F.d (fun e => absurd e hne) (fun e => absurd e hne2)
    rw [netV_cons (fun e => hne e.1)] at hex
    simp (disch := first | (simp only [go_sem, Bool.and_self, eq_self]; done) | omega | (simp only [List.length_cons, List.length_nil]; omega)) only [go_sem, ↓reduceIte, Nat.reduceEqDiff, Nat.reduceAdd, Nat.reduceMul, Nat.reduceSub, Int.reduceToNat, Nat.reduceBEq, List.size_toArray, List.length_cons, List.length_nil, Bool.false_and, Bool.true_and, Bool.or_false, Bool.false_or, Bool.and_false, Bool.and_true, s1, s2, s3, s6, s7, b1, b2, hca, hcb, hex]

theorem f43_con (p t : List (List Int)) (hp : okLL p) (ht : okLL t) : Con Try.prog cfg 43 [.agg [LLI p, LLI t], .agg [LLI p, LLI t]] (.bool true) := by
  have ml : maxLen = 9223372036854775807 := by decide
  have hpl := hp.1
  have htl := ht.1
  refine Con_intro Try.func43 rfl ok43 (Nat.le_of_ble_eq_true rfl) rfl ?_
  simp only [Try.f43, Option.getD_some, initSt2]
  simp (disch := first | (simp only [go_sem, Bool.and_self, eq_self]; done) | omega | (simp only [List.length_cons, List.length_nil]; omega)) only [go_sem, ↓reduceIte, Nat.reduceEqDiff, Nat.reduceAdd, Nat.reduceMul, Nat.reduceSub, Int.reduceToNat, Nat.reduceBEq, List.size_toArray, List.length_cons, List.length_nil, Bool.false_and, Bool.true_and, Bool.or_false, Bool.false_or, Bool.and_false, Bool.and_true, eq_self, decide_true]
  refine WP_cut (fun st h => st 2 = .ptr 0 0 ∧ st 3 = .ptr 1 0 ∧ st 4 = .bool false ∧ 2 ≤ h.nx ∧ h.bl 0 = some (.cells false false [LLI p, LLI t]) ∧ h.bl 1 = some (.cells false false [LLI p, LLI t])) ?_ ?_
  · refine WP_for 5 p.length (fun i st h => st 2 = .ptr 0 0 ∧ st 3 = .ptr 1 0 ∧ st 4 = .bool false ∧ 2 ≤ h.nx ∧ h.bl 0 = some (.cells false false [LLI p, LLI t]) ∧ h.bl 1 = some (.cells false false [LLI p, LLI t])) (by simp (disch := first | (simp only [go_sem, Bool.and_self, eq_self]; done) | omega | (simp only [List.length_cons, List.length_nil]; omega)) only [go_sem, ↓reduceIte, Nat.reduceEqDiff, Nat.reduceAdd, Nat.reduceMul, Nat.reduceSub, Int.reduceToNat, Nat.reduceBEq, List.size_toArray, List.length_cons, List.length_nil, Bool.false_and, Bool.true_and, Bool.or_false, Bool.false_or, Bool.and_false, Bool.and_true]) ⟨by simp (disch := first | (simp only [go_sem, Bool.and_self, eq_self]; done) | omega | (simp only [List.length_cons, List.length_nil]; omega)) only [go_sem, ↓reduceIte, Nat.reduceEqDiff, Nat.reduceAdd, Nat.reduceMul, Nat.reduceSub, Int.reduceToNat, Nat.reduceBEq, List.size_toArray, List.length_cons, List.length_nil, Bool.false_and, Bool.true_and, Bool.or_false, Bool.false_or, Bool.and_false, Bool.and_true], by simp (disch := first | (simp only [go_sem, Bool.and_self, eq_self]; done) | omega | (simp only [List.length_cons, List.length_nil]; omega)) only [go_sem, ↓reduceIte, Nat.reduceEqDiff, Nat.reduceAdd, Nat.reduceMul, Nat.reduceSub, Int.reduceToNat, Nat.reduceBEq, List.size_toArray, List.length_cons, List.length_nil, Bool.false_and, Bool.true_and, Bool.or_false, Bool.false_or, Bool.and_false, Bool.and_true], by simp (disch := first | (simp only [go_sem, Bool.and_self, eq_self]; done) | omega | (simp only [List.length_cons, List.length_nil]; omega)) only [go_sem, ↓reduceIte, Nat.reduceEqDiff, Nat.reduceAdd, Nat.reduceMul, Nat.reduceSub, Int.reduceToNat, Nat.reduceBEq, List.size_toArray, List.length_cons, List.length_nil, Bool.false_and, Bool.true_and, Bool.or_false, Bool.false_or, Bool.and_false, Bool.and_true], by simp (disch := first | (simp only [go_sem, Bool.and_self, eq_self]; done) | omega | (simp only [List.length_cons, List.length_nil]; omega)) only [go_sem, ↓reduceIte, Nat.reduceEqDiff, Nat.reduceAdd, Nat.reduceMul, Nat.reduceSub, Int.reduceToNat, Nat.reduceBEq, List.size_toArray, List.length_cons, List.length_nil, Bool.false_and, Bool.true_and, Bool.or_false, Bool.false_or, Bool.and_false, Bool.and_true]; decide, by simp (disch := first | (simp only [go_sem, Bool.and_self, eq_self]; done) | omega | (simp only [List.length_cons, List.length_nil]; omega)) only [go_sem, ↓reduceIte, Nat.reduceEqDiff, Nat.reduceAdd, Nat.reduceMul, Nat.reduceSub, Int.reduceToNat, Nat.reduceBEq, List.size_toArray, List.length_cons, List.length_nil, Bool.false_and, Bool.true_and, Bool.or_false, Bool.false_or, Bool.and_false, Bool.and_true], by simp (disch := first | (simp only [go_sem, Bool.and_self, eq_self]; done) | omega | (simp only [List.length_cons, List.length_nil]; omega)) only [go_sem, ↓reduceIte, Nat.reduceEqDiff, Nat.reduceAdd, Nat.reduceMul, Nat.reduceSub, Int.reduceToNat, Nat.reduceBEq, List.size_toArray, List.length_cons, List.length_nil, Bool.false_and, Bool.true_and, Bool.or_false, Bool.false_or, Bool.and_false, Bool.and_true]⟩ ?_
    rintro i st h hi s5 ⟨s2, s3, s4, hnx, b0, b1⟩
    by_cases hlt : i < p.length
    case neg =>
      simp (disch := first | (simp only [go_sem, Bool.and_self, eq_self]; done) | omega | (simp only [List.length_cons, List.length_nil]; omega)) only [go_sem, ↓reduceIte, Nat.reduceEqDiff, Nat.reduceAdd, Nat.reduceMul, Nat.reduceSub, Int.reduceToNat, Nat.reduceBEq, List.size_toArray, List.length_cons, List.length_nil, Bool.false_and, Bool.true_and, Bool.or_false, Bool.false_or, Bool.and_false, Bool.and_true, s2, s3, s4, s5, hlt, b0]
      exact ⟨hnx, b1⟩
    have hm := hp.2 _ (nth_mem hlt)
    have l0 : 0 < h.nx := by omega
    have l1 : 1 < h.nx := by omega
    have k39 := fun h h' K => ConW_num (h := h) (h' := h') (K := K) (f39_con (nth p i) (nth p i) hm hm) rfl
    simp (disch := first | (simp only [go_sem, Bool.and_self, eq_self]; done) | omega | (simp only [List.length_cons, List.length_nil]; omega)) only [go_sem, ↓reduceIte, Nat.reduceEqDiff, Nat.reduceAdd, Nat.reduceMul, Nat.reduceSub, Int.reduceToNat, Nat.reduceBEq, List.size_toArray, List.length_cons, List.length_nil, Bool.false_and, Bool.true_and, Bool.or_false, Bool.false_or, Bool.and_false, Bool.and_true, s2, s3, s4, s5, hlt, b0, b1, l0, l1, k39, eq_self, decide_true]
    rw [ForK_normal]
    exact ⟨hlt, by simp (disch := first | (simp only [go_sem, Bool.and_self, eq_self]; done) | omega | (simp only [List.length_cons, List.length_nil]; omega)) only [go_sem, ↓reduceIte, Nat.reduceEqDiff, Nat.reduceAdd, Nat.reduceMul, Nat.reduceSub, Int.reduceToNat, Nat.reduceBEq, List.size_toArray, List.length_cons, List.length_nil, Bool.false_and, Bool.true_and, Bool.or_false, Bool.false_or, Bool.and_false, Bool.and_true, s5], by simp (disch := first | (simp only [go_sem, Bool.and_self, eq_self]; done) | omega | (simp only [List.length_cons, List.length_nil]; omega)) only [go_sem, ↓reduceIte, Nat.reduceEqDiff, Nat.reduceAdd, Nat.reduceMul, Nat.reduceSub, Int.reduceToNat, Nat.reduceBEq, List.size_toArray, List.length_cons, List.length_nil, Bool.false_and, Bool.true_and, Bool.or_false, Bool.false_or, Bool.and_false, Bool.and_true, s2], by simp (disch := first | (simp only [go_sem, Bool.and_self, eq_self]; done) | omega | (simp only [List.length_cons, List.length_nil]; omega)) only [go_sem, ↓reduceIte, Nat.reduceEqDiff, Nat.reduceAdd, Nat.reduceMul, Nat.reduceSub, Int.reduceToNat, Nat.reduceBEq, List.size_toArray, List.length_cons, List.length_nil, Bool.false_and, Bool.true_and, Bool.or_false, Bool.false_or, Bool.and_false, Bool.and_true, s3], by simp (disch := first | (simp only [go_sem, Bool.and_self, eq_self]; done) | omega | (simp only [List.length_cons, List.length_nil]; omega)) only [go_sem, ↓reduceIte, Nat.reduceEqDiff, Nat.reduceAdd, Nat.reduceMul, Nat.reduceSub, Int.reduceToNat, Nat.reduceBEq, List.size_toArray, List.length_cons, List.length_nil, Bool.false_and, Bool.true_and, Bool.or_false, Bool.false_or, Bool.and_false, Bool.and_true, s4], hnx, b0, b1⟩
  rintro st h ⟨s2, s3, s4, hnx, b0, b1⟩
  simp (disch := first | (simp only [go_sem, Bool.and_self, eq_self]; done) | omega | (simp only [List.length_cons, List.length_nil]; omega)) only [go_sem, ↓reduceIte, Nat.reduceEqDiff, Nat.reduceAdd, Nat.reduceMul, Nat.reduceSub, Int.reduceToNat, Nat.reduceBEq, List.size_toArray, List.length_cons, List.length_nil, Bool.false_and, Bool.true_and, Bool.or_false, Bool.false_or, Bool.and_false, Bool.and_true, s2, s3, s4]
  refine WP_cut (fun st h => st 4 = .bool false) ?_ ?_
  · refine WP_for 6 t.length (fun i st h => st 2 = .ptr 0 0 ∧ st 3 = .ptr 1 0 ∧ st 4 = .bool false ∧ 2 ≤ h.nx ∧ h.bl 0 = some (.cells false false [LLI p, LLI t]) ∧ h.bl 1 = some (.cells false false [LLI p, LLI t])) (by simp (disch := first | (simp only [go_sem, Bool.and_self, eq_self]; done) | omega | (simp only [List.length_cons, List.length_nil]; omega)) only [go_sem, ↓reduceIte, Nat.reduceEqDiff, Nat.reduceAdd, Nat.reduceMul, Nat.reduceSub, Int.reduceToNat, Nat.reduceBEq, List.size_toArray, List.length_cons, List.length_nil, Bool.false_and, Bool.true_and, Bool.or_false, Bool.false_or, Bool.and_false, Bool.and_true]) ⟨by simp (disch := first | (simp only [go_sem, Bool.and_self, eq_self]; done) | omega | (simp only [List.length_cons, List.length_nil]; omega)) only [go_sem, ↓reduceIte, Nat.reduceEqDiff, Nat.reduceAdd, Nat.reduceMul, Nat.reduceSub, Int.reduceToNat, Nat.reduceBEq, List.size_toArray, List.length_cons, List.length_nil, Bool.false_and, Bool.true_and, Bool.or_false, Bool.false_or, Bool.and_false, Bool.and_true, s2], by simp (disch := first | (simp only [go_sem, Bool.and_self, eq_self]; done) | omega | (simp only [List.length_cons, List.length_nil]; omega)) only [go_sem, ↓reduceIte, Nat.reduceEqDiff, Nat.reduceAdd, Nat.reduceMul, Nat.reduceSub, Int.reduceToNat, Nat.reduceBEq, List.size_toArray, List.length_cons, List.length_nil, Bool.false_and, Bool.true_and, Bool.or_false, Bool.false_or, Bool.and_false, Bool.and_true, s3], by simp (disch := first | (simp only [go_sem, Bool.and_self, eq_self]; done) | omega | (simp only [List.length_cons, List.length_nil]; omega)) only [go_sem, ↓reduceIte, Nat.reduceEqDiff, Nat.reduceAdd, Nat.reduceMul, Nat.reduceSub, Int.reduceToNat, Nat.reduceBEq, List.size_toArray, List.length_cons, List.length_nil, Bool.false_and, Bool.true_and, Bool.or_false, Bool.false_or, Bool.and_false, Bool.and_true, s4], hnx, b0, b1⟩ ?_
    rintro i st h hi s6 ⟨s2, s3, s4, hnx, b0, b1⟩
    by_cases hlt : i < t.length
    case neg =>
      simp (disch := first | (simp only [go_sem, Bool.and_self, eq_self]; done) | omega | (simp only [List.length_cons, List.length_nil]; omega)) only [go_sem, ↓reduceIte, Nat.reduceEqDiff, Nat.reduceAdd, Nat.reduceMul, Nat.reduceSub, Int.reduceToNat, Nat.reduceBEq, List.size_toArray, List.length_cons, List.length_nil, Bool.false_and, Bool.true_and, Bool.or_false, Bool.false_or, Bool.and_false, Bool.and_true, s2, s3, s4, s6, hlt, b0]
    have hm := ht.2 _ (nth_mem hlt)
    have l0 : 0 < h.nx := by omega
    have l1 : 1 < h.nx := by omega
    have k39 := fun h h' K => ConW_num (h := h) (h' := h') (K := K) (f39_con (nth t i) (nth t i) hm hm) rfl
    simp (disch := first | (simp only [go_sem, Bool.and_self, eq_self]; done) | omega | (simp only [List.length_cons, List.length_nil]; omega)) only [go_sem, ↓reduceIte, Nat.reduceEqDiff, Nat.reduceAdd, Nat.reduceMul, Nat.reduceSub, Int.reduceToNat, Nat.reduceBEq, List.size_toArray, List.length_cons, List.length_nil, Bool.false_and, Bool.true_and, Bool.or_false, Bool.false_or, Bool.and_false, Bool.and_true, s2, s3, s4, s6, hlt, b0, b1, l0, l1, k39, eq_self, decide_true]
    rw [ForK_normal]
    exact ⟨hlt, by simp (disch := first | (simp only [go_sem, Bool.and_self, eq_self]; done) | omega | (simp only [List.length_cons, List.length_nil]; omega)) only [go_sem, ↓reduceIte, Nat.reduceEqDiff, Nat.reduceAdd, Nat.reduceMul, Nat.reduceSub, Int.reduceToNat, Nat.reduceBEq, List.size_toArray, List.length_cons, List.length_nil, Bool.false_and, Bool.true_and, Bool.or_false, Bool.false_or, Bool.and_false, Bool.and_true, s6], by simp (disch := first | (simp only [go_sem, Bool.and_self, eq_self]; done) | omega | (simp only [List.length_cons, List.length_nil]; omega)) only [go_sem, ↓reduceIte, Nat.reduceEqDiff, Nat.reduceAdd, Nat.reduceMul, Nat.reduceSub, Int.reduceToNat, Nat.reduceBEq, List.size_toArray, List.length_cons, List.length_nil, Bool.false_and, Bool.true_and, Bool.or_false, Bool.false_or, Bool.and_false, Bool.and_true, s2], by simp (disch := first | (simp only [go_sem, Bool.and_self, eq_self]; done) | omega | (simp only [List.length_cons, List.length_nil]; omega)) only [go_sem, ↓reduceIte, Nat.reduceEqDiff, Nat.reduceAdd, Nat.reduceMul, Nat.reduceSub, Int.reduceToNat, Nat.reduceBEq, List.size_toArray, List.length_cons, List.length_nil, Bool.false_and, Bool.true_and, Bool.or_false, Bool.false_or, Bool.and_false, Bool.and_true, s3], by simp (disch := first | (simp only [go_sem, Bool.and_self, eq_self]; done) | omega | (simp only [List.length_cons, List.length_nil]; omega)) only [go_sem, ↓reduceIte, Nat.reduceEqDiff, Nat.reduceAdd, Nat.reduceMul, Nat.reduceSub, Int.reduceToNat, Nat.reduceBEq, List.size_toArray, List.length_cons, List.length_nil, Bool.false_and, Bool.true_and, Bool.or_false, Bool.false_or, Bool.and_false, Bool.and_true, s4], hnx, b0, b1⟩
  · rintro st h s4
    simp (disch := first | (simp only [go_sem, Bool.and_self, eq_self]; done) | omega | (simp only [List.length_cons, List.length_nil]; omega)) only [go_sem, ↓reduceIte, Nat.reduceEqDiff, Nat.reduceAdd, Nat.reduceMul, Nat.reduceSub, Int.reduceToNat, Nat.reduceBEq, List.size_toArray, List.length_cons, List.length_nil, Bool.false_and, Bool.true_and, Bool.or_false, Bool.false_or, Bool.and_false, Bool.and_true, s4]

/-! ### The forced network is one -/
theorem forceP_len (p : List (List Int)) (v : Nat) : (forceP p v).length = p.length := by simp [forceP]
theorem force_net {p t : List (List Int)} (h : netB p t = true) {v : Nat} {x : Int} (hx : 0 ≤ x ∧ x ≤ 1) : netB (forceP p v) (forceT p t v x) = true := by
  have N := Net.of h
  simp only [netB, Bool.and_eq_true, decide_eq_true_eq] at h ⊢
  obtain ⟨⟨h1, h2⟩, h3⟩ := h
  refine ⟨⟨by rw [forceP_len]; exact h1, by simp [forceP, forceT]⟩, all_range fun i hi => ?_⟩
  rw [forceP_len] at hi
  have e1 : nth (forceP p v) i = rowFP p v i := nth_map_range _ _ _ hi
  have e2 : nth (forceT p t v x) i = rowFT t v x i := nth_map_range _ _ _ hi
  rw [rowB_def, e1, e2]
  by_cases hiv : i = v
  · have r1 : rowFP p v i = [] := by simp [rowFP, hiv]
    have r2 : rowFT t v x i = [16 * x] := by simp [rowFT, hiv]
    rw [r1, r2]
    simp [rowOK, inB]; omega
  · have r1 : rowFP p v i = nth p i := by simp [rowFP, hiv]
    have r2 : rowFT t v x i = nth t i := by simp [rowFT, hiv]
    rw [r1, r2, ← rowB_def]
    exact range_all h3 hi

end Go.Proofs.Ytpkakapbepkfdaa

set_option linter.unusedVariables false
set_option linter.unusedSimpArgs false
set_option maxRecDepth 10000
namespace Go.Proofs.Ytpkakapbepkfdaa
open Go Go.Am

variable {h h' : Hp} {K : AV → Hp → Prop}

section
variable {c : Cfg} {st : St} {ops : Array Oper} {lim : Option Nat}
@[go_sem ↓ high] theorem W_b24z : StepW Try.prog c ops lim (.build 24 #[]) st h K = K (.agg [.nil, .nil]) h := by
  rw [W_build, show buildB Try.prog (Try.prog.underlying 24) (izero Try.prog 24) ((#[] : Array (Nat × Operand)).toList.map fun p => (p.1, ev st p.2)) = some (.agg [.nil, .nil]) by kernel_rfl]
  exact getW_some _
end
def forR (p t : List (List Int)) (v x : Int) : AV :=
  if netB p t && (inB v 0 (p.length - 1) && inB x 0 1) then .tup [.agg [LLI (forceP p v.toNat), LLI (forceT p t v.toNat x)], I 0] else .tup [.agg [.nil, .nil], I 2]
theorem netR_any (p t : List (List Int)) : (netR p t).isScalar = false := by unfold netR; split <;> rfl
theorem k46X (p t : List (List Int)) (hp : okLL p) (ht : okLL t) : ConW Try.prog cfgX 46 h (some ([.agg [LLI p, LLI t]], h')) K = K (netR p t) h' := by
  rw [ConW_any (lift (by decide) (f46_con p t hp ht)) (netR_any p t)]
  unfold netR; split <;> rfl
@[go_sem] theorem k49X (x lo hi : Int) : ConW Try.prog cfgX 49 h (some ([I x, I lo, I hi], h')) K = K (.bool (inB x lo hi)) h := ConW_num (lift (by decide) (f49_con x lo hi)) rfl
theorem f41_con (p t : List (List Int)) (hp : okLL p) (ht : okLL t) (v x : Int) : Con Try.prog cfgX 41 [.agg [LLI p, LLI t], I v, I x] (forR p t v x) := by
  have kn := fun h h' K => k46X (h := h) (h' := h') (K := K) p t hp ht
  have n20 : ¬ (2 : Int) = 0 := by decide
  have hs : ∀ h : Hp, sealA h (.agg [.nil, .nil]) = some (.agg [.nil, .nil], h) := fun _ => rfl
  have hex : ∀ (h : Hp), exportR Try.prog false false [24, 30] h (.tup [.agg [.nil, .nil], I 2]) = some (.tup [.agg [.nil, .nil], I 2]) := fun _ => rfl
  cases h1 : netB p t with
  | false =>
    have hr : forR p t v x = .tup [.agg [.nil, .nil], I 2] := by simp [forR, h1]
    refine Con_intro Try.func41 rfl okX41 (Nat.le_of_ble_eq_true rfl) rfl ?_
    simp only [Try.f41, Option.getD_some, initSt3]
    simp (disch := first | (simp only [go_sem, Bool.and_self, eq_self]; done) | omega | (simp only [List.length_cons, List.length_nil]; omega)) only [go_sem, ↓reduceIte, Nat.reduceEqDiff, Nat.reduceAdd, Nat.reduceMul, Nat.reduceSub, Int.reduceToNat, Nat.reduceBEq, List.size_toArray, List.length_cons, List.length_nil, Bool.false_and, Bool.true_and, Bool.or_false, Bool.false_or, Bool.and_false, Bool.and_true, kn, netR_f h1, n20, hr, hs, hex]
  | true =>
  have N := Net.of h1
  have hn1 := N.n1
  cases h2 : inB v 0 (p.length - 1) with
  | false =>
    have hr : forR p t v x = .tup [.agg [.nil, .nil], I 2] := by simp [forR, h2]
    refine Con_intro Try.func41 rfl okX41 (Nat.le_of_ble_eq_true rfl) rfl ?_
    simp only [Try.f41, Option.getD_some, initSt3]
    simp (disch := first | (simp only [go_sem, Bool.and_self, eq_self]; done) | omega | (simp only [List.length_cons, List.length_nil]; omega)) only [go_sem, ↓reduceIte, Nat.reduceEqDiff, Nat.reduceAdd, Nat.reduceMul, Nat.reduceSub, Int.reduceToNat, Nat.reduceBEq, List.size_toArray, List.length_cons, List.length_nil, Bool.false_and, Bool.true_and, Bool.or_false, Bool.false_or, Bool.and_false, Bool.and_true, kn, netR_t h1, n20, hr, hs, hex, h2]
  | true =>
  cases h3 : inB x 0 1 with
  | false =>
    have hr : forR p t v x = .tup [.agg [.nil, .nil], I 2] := by simp [forR, h3]
    refine Con_intro Try.func41 rfl okX41 (Nat.le_of_ble_eq_true rfl) rfl ?_
    simp only [Try.f41, Option.getD_some, initSt3]
    simp (disch := first | (simp only [go_sem, Bool.and_self, eq_self]; done) | omega | (simp only [List.length_cons, List.length_nil]; omega)) only [go_sem, ↓reduceIte, Nat.reduceEqDiff, Nat.reduceAdd, Nat.reduceMul, Nat.reduceSub, Int.reduceToNat, Nat.reduceBEq, List.size_toArray, List.length_cons, List.length_nil, Bool.false_and, Bool.true_and, Bool.or_false, Bool.false_or, Bool.and_false, Bool.and_true, kn, netR_t h1, n20, hr, hs, hex, h2, h3]
  | true =>
  have hr : forR p t v x = .tup [.agg [LLI (forceP p v.toNat), LLI (forceT p t v.toNat x)], I 0] := by simp [forR, h1, h2, h3]
  simp only [inB, Bool.and_eq_true, decide_eq_true_eq] at h2 h3
  have hv : ((v.toNat : Nat) : Int) = v := by omega
  have k70 := fun h h' K => ConW_any (h := h) (h' := h') (K := K) (f70_con p t N v.toNat (by omega) x h3) rfl
  rw [hv] at k70
  have hi : ∀ h : Hp, importR h (.agg [LLI (forceP p v.toNat), LLI (forceT p t v.toNat x)]) = (.agg [LLI (forceP p v.toNat), LLI (forceT p t v.toNat x)], h) := fun _ => rfl
  have h2' : inB v 0 (p.length - 1) = true := by simp [inB]; omega
  have h3' : inB x 0 1 = true := by simp [inB]; omega
  refine Con_intro Try.func41 rfl okX41 (Nat.le_of_ble_eq_true rfl) rfl ?_
  simp only [Try.f41, Option.getD_some, initSt3]
  simp (disch := first | (simp only [go_sem, Bool.and_self, eq_self]; done) | omega | (simp only [List.length_cons, List.length_nil]; omega)) only [go_sem, ↓reduceIte, Nat.reduceEqDiff, Nat.reduceAdd, Nat.reduceMul, Nat.reduceSub, Int.reduceToNat, Nat.reduceBEq, List.size_toArray, List.length_cons, List.length_nil, Bool.false_and, Bool.true_and, Bool.or_false, Bool.false_or, Bool.and_false, Bool.and_true, kn, netR_t h1, hr, h2', h3', k70, hi]

def efF (p t : List (List Int)) (v x w : Int) : AV := redu (sumB (forceP p v.toNat) (forceT p t v.toNat x) [(w, 1)]) (16 ^ p.length)
def efR (p t : List (List Int)) (v w : Int) : AV :=
  if netB p t && (inB v 0 (p.length - 1) && inB w 0 (p.length - 1)) then .tup [efF p t v 0 w, efF p t v 1 w, I 0] else .tup [.agg [I 0, I 0], .agg [I 0, I 0], I 2]
theorem f42_con (p t : List (List Int)) (hp : okLL p) (ht : okLL t) (v w : Int) : Con Try.prog cfgX 42 [.agg [LLI p, LLI t], I v, I w] (efR p t v w) := by
  have kn := fun h h' K => k46X (h := h) (h' := h') (K := K) p t hp ht
  have n20 : ¬ (2 : Int) = 0 := by decide
  cases h1 : netB p t with
  | false =>
    have hr : efR p t v w = .tup [.agg [I 0, I 0], .agg [I 0, I 0], I 2] := by simp [efR, h1]
    refine Con_intro Try.func42 rfl okX42 (Nat.le_of_ble_eq_true rfl) rfl ?_
    simp only [Try.f42, Option.getD_some, initSt3]
    simp (disch := first | (simp only [go_sem, Bool.and_self, eq_self]; done) | omega | (simp only [List.length_cons, List.length_nil]; omega)) only [go_sem, ↓reduceIte, Nat.reduceEqDiff, Nat.reduceAdd, Nat.reduceMul, Nat.reduceSub, Int.reduceToNat, Nat.reduceBEq, List.size_toArray, List.length_cons, List.length_nil, Bool.false_and, Bool.true_and, Bool.or_false, Bool.false_or, Bool.and_false, Bool.and_true, kn, netR_f h1, n20, hr]
  | true =>
  have N := Net.of h1
  have hn1 := N.n1
  cases h2 : inB v 0 (p.length - 1) with
  | false =>
    have hr : efR p t v w = .tup [.agg [I 0, I 0], .agg [I 0, I 0], I 2] := by simp [efR, h2]
    refine Con_intro Try.func42 rfl okX42 (Nat.le_of_ble_eq_true rfl) rfl ?_
    simp only [Try.f42, Option.getD_some, initSt3]
    simp (disch := first | (simp only [go_sem, Bool.and_self, eq_self]; done) | omega | (simp only [List.length_cons, List.length_nil]; omega)) only [go_sem, ↓reduceIte, Nat.reduceEqDiff, Nat.reduceAdd, Nat.reduceMul, Nat.reduceSub, Int.reduceToNat, Nat.reduceBEq, List.size_toArray, List.length_cons, List.length_nil, Bool.false_and, Bool.true_and, Bool.or_false, Bool.false_or, Bool.and_false, Bool.and_true, kn, netR_t h1, n20, hr, h2]
  | true =>
  cases h3 : inB w 0 (p.length - 1) with
  | false =>
    have hr : efR p t v w = .tup [.agg [I 0, I 0], .agg [I 0, I 0], I 2] := by simp [efR, h3]
    refine Con_intro Try.func42 rfl okX42 (Nat.le_of_ble_eq_true rfl) rfl ?_
    simp only [Try.f42, Option.getD_some, initSt3]
    simp (disch := first | (simp only [go_sem, Bool.and_self, eq_self]; done) | omega | (simp only [List.length_cons, List.length_nil]; omega)) only [go_sem, ↓reduceIte, Nat.reduceEqDiff, Nat.reduceAdd, Nat.reduceMul, Nat.reduceSub, Int.reduceToNat, Nat.reduceBEq, List.size_toArray, List.length_cons, List.length_nil, Bool.false_and, Bool.true_and, Bool.or_false, Bool.false_or, Bool.and_false, Bool.and_true, kn, netR_t h1, n20, hr, h2, h3]
  | true =>
  have hr : efR p t v w = .tup [efF p t v 0 w, efF p t v 1 w, I 0] := by simp [efR, h1, h2, h3]
  have h2' := h2
  have h3' := h3
  simp only [inB, Bool.and_eq_true, decide_eq_true_eq] at h2' h3'
  have hv : ((v.toNat : Nat) : Int) = v := by omega
  have k70 := fun (x : Int) (hx : 0 ≤ x ∧ x ≤ 1) h h' K => ConW_any (h := h) (h' := h') (K := K) (f70_con p t N v.toNat (by omega) x hx) rfl
  rw [hv] at k70
  have k700 := k70 0 (by decide)
  have k701 := k70 1 (by decide)
  refine Con_intro Try.func42 rfl okX42 (Nat.le_of_ble_eq_true rfl) rfl ?_
  simp only [Try.f42, Option.getD_some, initSt3]
  simp (disch := first | (simp only [go_sem, Bool.and_self, eq_self]; done) | omega | (simp only [List.length_cons, List.length_nil]; omega)) only [go_sem, ↓reduceIte, Nat.reduceEqDiff, Nat.reduceAdd, Nat.reduceMul, Nat.reduceSub, Int.reduceToNat, Nat.reduceBEq, List.size_toArray, List.length_cons, List.length_nil, Bool.false_and, Bool.true_and, Bool.or_false, Bool.false_or, Bool.and_false, Bool.and_true, kn, netR_t h1, hr, h2, h3]
  have hst0 : ∀ i, st0 i = .skp := fun _ => rfl
  have hi7 : ∀ (h : Hp) (x : Int), importR h (.agg [LLI (forceP p v.toNat), LLI (forceT p t v.toNat x)]) = (.agg [LLI (forceP p v.toNat), LLI (forceT p t v.toNat x)], h) := fun _ _ => rfl
  have hpk : putK w (I 1) [] = entF [(w, 1)] := rfl
  have n35 : (3 : Nat) < 5 := by decide
  have n36 : (3 : Nat) < 6 := by decide
  have n37 : (3 : Nat) < 7 := by decide
  have n38 : (3 : Nat) < 8 := by decide
  have n39 : (3 : Nat) < 9 := by decide
  have n45 : (4 : Nat) < 5 := by decide
  have n46 : (4 : Nat) < 6 := by decide
  have n47 : (4 : Nat) < 7 := by decide
  have n48 : (4 : Nat) < 8 := by decide
  have n49 : (4 : Nat) < 9 := by decide
  have n55 : ¬ (5 : Nat) < 5 := by decide
  have n56 : (5 : Nat) < 6 := by decide
  have n57 : (5 : Nat) < 7 := by decide
  have n58 : (5 : Nat) < 8 := by decide
  have n59 : (5 : Nat) < 9 := by decide
  have n65 : ¬ (6 : Nat) < 5 := by decide
  have n66 : ¬ (6 : Nat) < 6 := by decide
  have n67 : (6 : Nat) < 7 := by decide
  have n68 : (6 : Nat) < 8 := by decide
  have n69 : (6 : Nat) < 9 := by decide
  have n75 : ¬ (7 : Nat) < 5 := by decide
  have n76 : ¬ (7 : Nat) < 6 := by decide
  have n77 : ¬ (7 : Nat) < 7 := by decide
  have n78 : (7 : Nat) < 8 := by decide
  have n79 : (7 : Nat) < 9 := by decide
  have n85 : ¬ (8 : Nat) < 5 := by decide
  have n86 : ¬ (8 : Nat) < 6 := by decide
  have n87 : ¬ (8 : Nat) < 7 := by decide
  have n88 : ¬ (8 : Nat) < 8 := by decide
  have n89 : (8 : Nat) < 9 := by decide
  have l02 : (0 : Int) < 2 := by decide
  have l12 : (1 : Int) < 2 := by decide
  have n22 : ¬ (2 : Int) < 2 := by decide
  have netf := fun (x : Int) (hx : 0 ≤ x ∧ x ≤ 1) => Net.of (force_net h1 (v := v.toNat) hx)
  have hpw := pow16_le (Nat.le_refl p.length) hn1.2
  have hp0 := pow16_pos p.length
  have k55X := fun (x : Int) (hx : 0 ≤ x ∧ x ≤ 1) h h' K => ConW_num (h := h) (h' := h') (K := K) (lift (by decide) (f55_con _ _ (netf x hx) [(w, 1)])) rfl
  simp only [forceP_len] at k55X
  have k550 := k55X 0 (by decide)
  have k551 := k55X 1 (by decide)
  have k520 := fun h h' K => ConW_num (h := h) (h' := h') (K := K) (lift (by decide) (f52_con (forceP p v.toNat) (forceT p t v.toNat 0) p.length hn1.2)) rfl
  have k521 := fun h h' K => ConW_num (h := h) (h' := h') (K := K) (lift (by decide) (f52_con (forceP p v.toNat) (forceT p t v.toNat 1) p.length hn1.2)) rfl
  have sb0 := sumB_bounds (netf 0 (by decide)) [(w, 1)]
  have sb1 := sumB_bounds (netf 1 (by decide)) [(w, 1)]
  have k500 := fun h h' K => ConW_num (h := h) (h' := h') (K := K) (lift (by decide) (f50_con _ (16 ^ p.length) (show 0 ≤ sumB (forceP p v.toNat) (forceT p t v.toNat 0) [(w, 1)] ∧ _ from ⟨sb0.1, by omega⟩) (by omega))) rfl
  have k501 := fun h h' K => ConW_num (h := h) (h' := h') (K := K) (lift (by decide) (f50_con _ (16 ^ p.length) (show 0 ≤ sumB (forceP p v.toNat) (forceT p t v.toNat 1) [(w, 1)] ∧ _ from ⟨sb1.1, by omega⟩) (by omega))) rfl
  have hse := fun (id : Nat) (g : Hp) => show sealA (g.put id (some (.mp false (entF [(w, 1)])))) (.mp id) = some (mvE [(w, 1)], (g.put id (some (.mp false (entF [(w, 1)])))).put id (some (.mp true (entF [(w, 1)])))) by
    show sealV0 _ (.mp id) = _
    have hb : (g.put id (some (.mp false (entF [(w, 1)])))).bl id = some (.mp false (entF [(w, 1)])) := by simp [Hp.put]
    simp only [sealV0, AV.isPure, hb]
    simp [entF, AV.pureL, AV.isPure]
  have hix0 : idxAddrA Try.prog (some (.array 2 29)) (.ptr 4 0) (I 0) = some (.ptr 4 0) := by kernel_rfl
  have hix1 : idxAddrA Try.prog (some (.array 2 29)) (.ptr 4 0) (I 1) = some (.ptr 4 2) := by kernel_rfl
  have hst1 := fun (h : Hp) (a b c d x y : Int) => show storeC h 4 0 2 (some (.cells false false [I a, I b, I c, I d])) [I x, I y] = some (.skp, h.put 4 (some (.cells false false [I x, I y, I c, I d]))) by simp [storeC, setL, AV.isCell]
  have hst2 := fun (h : Hp) (a b c d x y : Int) => show storeC h 4 2 2 (some (.cells false false [I a, I b, I c, I d])) [I x, I y] = some (.skp, h.put 4 (some (.cells false false [I a, I b, I x, I y]))) by simp [storeC, setL, AV.isCell]
  refine WP_cut (fun st h => st 6 = .ptr 1 0 ∧ st 7 = .ptr 2 0 ∧ st 11 = .ptr 4 0 ∧ 5 ≤ h.nx ∧ h.bl 1 = some (.cells false false [I 0, I 0]) ∧ h.bl 2 = some (.cells false false [I 0, I 0]) ∧ ∃ a b c d, efF p t v 0 w = .agg [I a, I b] ∧ efF p t v 1 w = .agg [I c, I d] ∧ h.bl 4 = some (.cells false false [I a, I b, I c, I d])) ?_ ?_
  · refine WP_for 39 2 (fun i st h => st 1 = I v ∧ st 2 = I w ∧ st 6 = .ptr 1 0 ∧ st 7 = .ptr 2 0 ∧ st 9 = .ptr 3 0 ∧ st 11 = .ptr 4 0 ∧ h.nx = 5 + 2 * i ∧ h.bl 1 = some (.cells false false [I 0, I 0]) ∧ h.bl 2 = some (.cells false false [I 0, I 0]) ∧ h.bl 3 = some (.cells false false [LLI p, LLI t, I p.length]) ∧
      (i = 0 → st 13 = .skp) ∧ (i = 1 → st 13 = .ptr 5 0) ∧ (i = 0 → st 58 = .skp) ∧ (i = 1 → st 58 = .ptr 4 0) ∧ ∃ a b c d, (1 ≤ i → efF p t v 0 w = .agg [I a, I b]) ∧ (2 ≤ i → efF p t v 1 w = .agg [I c, I d]) ∧ h.bl 4 = some (.cells false false [I a, I b, I c, I d])) (by simp (disch := first | (simp only [go_sem, Bool.and_self, eq_self]; done) | omega | (simp only [List.length_cons, List.length_nil]; omega)) only [go_sem, ↓reduceIte, Nat.reduceEqDiff, Nat.reduceAdd, Nat.reduceMul, Nat.reduceSub, Int.reduceToNat, Nat.reduceBEq, List.size_toArray, List.length_cons, List.length_nil, Bool.false_and, Bool.true_and, Bool.or_false, Bool.false_or, Bool.and_false, Bool.and_true]) ⟨by simp (disch := first | (simp only [go_sem, Bool.and_self, eq_self]; done) | omega | (simp only [List.length_cons, List.length_nil]; omega)) only [go_sem, ↓reduceIte, Nat.reduceEqDiff, Nat.reduceAdd, Nat.reduceMul, Nat.reduceSub, Int.reduceToNat, Nat.reduceBEq, List.size_toArray, List.length_cons, List.length_nil, Bool.false_and, Bool.true_and, Bool.or_false, Bool.false_or, Bool.and_false, Bool.and_true], by simp (disch := first | (simp only [go_sem, Bool.and_self, eq_self]; done) | omega | (simp only [List.length_cons, List.length_nil]; omega)) only [go_sem, ↓reduceIte, Nat.reduceEqDiff, Nat.reduceAdd, Nat.reduceMul, Nat.reduceSub, Int.reduceToNat, Nat.reduceBEq, List.size_toArray, List.length_cons, List.length_nil, Bool.false_and, Bool.true_and, Bool.or_false, Bool.false_or, Bool.and_false, Bool.and_true], by simp (disch := first | (simp only [go_sem, Bool.and_self, eq_self]; done) | omega | (simp only [List.length_cons, List.length_nil]; omega)) only [go_sem, ↓reduceIte, Nat.reduceEqDiff, Nat.reduceAdd, Nat.reduceMul, Nat.reduceSub, Int.reduceToNat, Nat.reduceBEq, List.size_toArray, List.length_cons, List.length_nil, Bool.false_and, Bool.true_and, Bool.or_false, Bool.false_or, Bool.and_false, Bool.and_true], by simp (disch := first | (simp only [go_sem, Bool.and_self, eq_self]; done) | omega | (simp only [List.length_cons, List.length_nil]; omega)) only [go_sem, ↓reduceIte, Nat.reduceEqDiff, Nat.reduceAdd, Nat.reduceMul, Nat.reduceSub, Int.reduceToNat, Nat.reduceBEq, List.size_toArray, List.length_cons, List.length_nil, Bool.false_and, Bool.true_and, Bool.or_false, Bool.false_or, Bool.and_false, Bool.and_true], by simp (disch := first | (simp only [go_sem, Bool.and_self, eq_self]; done) | omega | (simp only [List.length_cons, List.length_nil]; omega)) only [go_sem, ↓reduceIte, Nat.reduceEqDiff, Nat.reduceAdd, Nat.reduceMul, Nat.reduceSub, Int.reduceToNat, Nat.reduceBEq, List.size_toArray, List.length_cons, List.length_nil, Bool.false_and, Bool.true_and, Bool.or_false, Bool.false_or, Bool.and_false, Bool.and_true], by simp (disch := first | (simp only [go_sem, Bool.and_self, eq_self]; done) | omega | (simp only [List.length_cons, List.length_nil]; omega)) only [go_sem, ↓reduceIte, Nat.reduceEqDiff, Nat.reduceAdd, Nat.reduceMul, Nat.reduceSub, Int.reduceToNat, Nat.reduceBEq, List.size_toArray, List.length_cons, List.length_nil, Bool.false_and, Bool.true_and, Bool.or_false, Bool.false_or, Bool.and_false, Bool.and_true], by simp (disch := first | (simp only [go_sem, Bool.and_self, eq_self]; done) | omega | (simp only [List.length_cons, List.length_nil]; omega)) only [go_sem, ↓reduceIte, Nat.reduceEqDiff, Nat.reduceAdd, Nat.reduceMul, Nat.reduceSub, Int.reduceToNat, Nat.reduceBEq, List.size_toArray, List.length_cons, List.length_nil, Bool.false_and, Bool.true_and, Bool.or_false, Bool.false_or, Bool.and_false, Bool.and_true], by simp (disch := first | (simp only [go_sem, Bool.and_self, eq_self]; done) | omega | (simp only [List.length_cons, List.length_nil]; omega)) only [go_sem, ↓reduceIte, Nat.reduceEqDiff, Nat.reduceAdd, Nat.reduceMul, Nat.reduceSub, Int.reduceToNat, Nat.reduceBEq, List.size_toArray, List.length_cons, List.length_nil, Bool.false_and, Bool.true_and, Bool.or_false, Bool.false_or, Bool.and_false, Bool.and_true], by simp (disch := first | (simp only [go_sem, Bool.and_self, eq_self]; done) | omega | (simp only [List.length_cons, List.length_nil]; omega)) only [go_sem, ↓reduceIte, Nat.reduceEqDiff, Nat.reduceAdd, Nat.reduceMul, Nat.reduceSub, Int.reduceToNat, Nat.reduceBEq, List.size_toArray, List.length_cons, List.length_nil, Bool.false_and, Bool.true_and, Bool.or_false, Bool.false_or, Bool.and_false, Bool.and_true], by simp (disch := first | (simp only [go_sem, Bool.and_self, eq_self]; done) | omega | (simp only [List.length_cons, List.length_nil]; omega)) only [go_sem, ↓reduceIte, Nat.reduceEqDiff, Nat.reduceAdd, Nat.reduceMul, Nat.reduceSub, Int.reduceToNat, Nat.reduceBEq, List.size_toArray, List.length_cons, List.length_nil, Bool.false_and, Bool.true_and, Bool.or_false, Bool.false_or, Bool.and_false, Bool.and_true], fun _ => by simp (disch := first | (simp only [go_sem, Bool.and_self, eq_self]; done) | omega | (simp only [List.length_cons, List.length_nil]; omega)) only [go_sem, ↓reduceIte, Nat.reduceEqDiff, Nat.reduceAdd, Nat.reduceMul, Nat.reduceSub, Int.reduceToNat, Nat.reduceBEq, List.size_toArray, List.length_cons, List.length_nil, Bool.false_and, Bool.true_and, Bool.or_false, Bool.false_or, Bool.and_false, Bool.and_true, hst0], by omega, fun _ => by simp (disch := first | (simp only [go_sem, Bool.and_self, eq_self]; done) | omega | (simp only [List.length_cons, List.length_nil]; omega)) only [go_sem, ↓reduceIte, Nat.reduceEqDiff, Nat.reduceAdd, Nat.reduceMul, Nat.reduceSub, Int.reduceToNat, Nat.reduceBEq, List.size_toArray, List.length_cons, List.length_nil, Bool.false_and, Bool.true_and, Bool.or_false, Bool.false_or, Bool.and_false, Bool.and_true, hst0], by omega, 0, 0, 0, 0, by omega, by omega, by simp (disch := first | (simp only [go_sem, Bool.and_self, eq_self]; done) | omega | (simp only [List.length_cons, List.length_nil]; omega)) only [go_sem, ↓reduceIte, Nat.reduceEqDiff, Nat.reduceAdd, Nat.reduceMul, Nat.reduceSub, Int.reduceToNat, Nat.reduceBEq, List.size_toArray, List.length_cons, List.length_nil, Bool.false_and, Bool.true_and, Bool.or_false, Bool.false_or, Bool.and_false, Bool.and_true]⟩ ?_
    rintro i st h hi s39 ⟨s1, s2, s6, s7, s9, s11, hn, b1, b2, b3, s13, s13', s58, s58', a, b, c, d, q1, q2, b4⟩
    by_cases hlt : i < 2
    case neg =>
      have hii : i = 2 := by omega
      subst hii
      change st 39 = I 2 at s39
      simp (disch := first | (simp only [go_sem, Bool.and_self, eq_self]; done) | omega | (simp only [List.length_cons, List.length_nil]; omega)) only [go_sem, ↓reduceIte, Nat.reduceEqDiff, Nat.reduceAdd, Nat.reduceMul, Nat.reduceSub, Int.reduceToNat, Nat.reduceBEq, List.size_toArray, List.length_cons, List.length_nil, Bool.false_and, Bool.true_and, Bool.or_false, Bool.false_or, Bool.and_false, Bool.and_true, s6, s7, s11, s39, n22]
      exact ⟨by omega, b1, b2, a, b, c, d, q1 (by omega), q2 (by omega), b4⟩
    have hiv : i = 0 ∨ i = 1 := by omega
    rcases hiv with rfl | rfl
    · change st 39 = I 0 at s39
      change h.nx = 5 at hn
      have s13 := s13 rfl
      have s58 := s58 rfl
      simp (disch := first | (simp only [go_sem, Bool.and_self, eq_self]; done) | omega | (simp only [List.length_cons, List.length_nil]; omega)) only [go_sem, ↓reduceIte, Nat.reduceEqDiff, Nat.reduceAdd, Nat.reduceMul, Nat.reduceSub, Int.reduceToNat, Nat.reduceBEq, List.size_toArray, List.length_cons, List.length_nil, Bool.false_and, Bool.true_and, Bool.or_false, Bool.false_or, Bool.and_false, Bool.and_true, s1, s2, s9, s11, s13, s58, s39, b3, b4, hn, l02, List.filterMap_cons, List.filterMap_nil, List.contains_nil, List.contains_cons, Bool.not_false, Bool.not_true, Bool.or_true, hst0]
      simp only [go_sem, hst0, List.filterMap_cons, List.filterMap_nil, s1, s2, s9, s11, s13, s58, s39, hn, b3, b4, n35, n36, n37, n38, n39, n45, n46, n47, n48, n49, n55, n56, n57, n58, n59, n65, n66, n67, n68, n69, n75, n76, n77, n78, n79, n85, n86, n87, n88, n89, decide_true, decide_false, Bool.not_false, Bool.not_true, Bool.and_true, Bool.true_and, Bool.false_and, Bool.and_false, Bool.true_or, Bool.or_true, Bool.or_false, Bool.false_or, List.contains_nil, List.contains_cons, List.nil_append, ↓reduceIte, Nat.reduceEqDiff, Nat.reduceBEq, Nat.reduceAdd, List.drop_succ_cons, List.drop_zero, List.getElem?_cons_zero, List.cons_append]
      simp only [go_sem, k700, hi7, hst0, s1, s2, s9, s11, s13, s58, s39, hn, b3, b4, n35, n36, n37, n38, n39, n45, n46, n47, n48, n49, n55, n56, n57, n58, n59, n65, n66, n67, n68, n69, n75, n76, n77, n78, n79, n85, n86, n87, n88, n89, decide_true, decide_false, Bool.not_false, Bool.not_true, Bool.and_true, Bool.true_and, Bool.false_and, Bool.and_false, Bool.true_or, Bool.or_true, Bool.or_false, Bool.false_or, List.contains_nil, List.contains_cons, List.nil_append, ↓reduceIte, Nat.reduceEqDiff, Nat.reduceBEq, Nat.reduceAdd, List.drop_succ_cons, List.drop_zero, List.getElem?_cons_zero, List.cons_append]
      simp only [List.size_toArray, List.length_cons, List.length_nil, Nat.reduceAdd, Nat.reduceBEq, Bool.false_and, Bool.and_false, Bool.true_and, Bool.false_or, Bool.or_false, Bool.true_or, Bool.or_true, Bool.and_true, regW_t]
      simp only [go_sem, hpk, hst0, List.filterMap_cons, List.filterMap_nil, s1, s2, s9, s11, s13, s58, s39, hn, b3, b4, n35, n36, n37, n38, n39, n45, n46, n47, n48, n49, n55, n56, n57, n58, n59, n65, n66, n67, n68, n69, n75, n76, n77, n78, n79, n85, n86, n87, n88, n89, decide_true, decide_false, Bool.not_false, Bool.not_true, Bool.and_true, Bool.true_and, Bool.false_and, Bool.and_false, Bool.true_or, Bool.or_true, Bool.or_false, Bool.false_or, List.contains_nil, List.contains_cons, List.nil_append, ↓reduceIte, Nat.reduceEqDiff, Nat.reduceBEq, Nat.reduceAdd, List.drop_succ_cons, List.drop_zero, List.getElem?_cons_zero, List.cons_append]
      simp only [go_sem, hpk, hse, k550, k520, k500, hix0, hst1, hst0, s1, s2, s9, s11, s13, s58, s39, hn, b3, b4, n35, n36, n37, n38, n39, n45, n46, n47, n48, n49, n55, n56, n57, n58, n59, n65, n66, n67, n68, n69, n75, n76, n77, n78, n79, n85, n86, n87, n88, n89, decide_true, decide_false, Bool.not_false, Bool.not_true, Bool.and_true, Bool.true_and, Bool.false_and, Bool.and_false, Bool.true_or, Bool.or_true, Bool.or_false, Bool.false_or, List.contains_nil, List.contains_cons, List.nil_append, ↓reduceIte, Nat.reduceEqDiff, Nat.reduceBEq, Nat.reduceAdd, List.drop_succ_cons, List.drop_zero, List.getElem?_cons_zero, List.cons_append]
      simp (disch := first | (simp only [go_sem, Bool.and_self, eq_self]; done) | omega | (simp only [List.length_cons, List.length_nil]; omega)) only [go_sem, ↓reduceIte, Nat.reduceEqDiff, Nat.reduceAdd, Nat.reduceMul, Nat.reduceSub, Int.reduceToNat, Nat.reduceBEq, List.size_toArray, List.length_cons, List.length_nil, Bool.false_and, Bool.true_and, Bool.or_false, Bool.false_or, Bool.and_false, Bool.and_true, hst1, s1, s2, s9, s11, s13, s58, s39, hn, b3, b4]
      rw [ForK_normal]
      exact ⟨by omega, by simp (disch := first | (simp only [go_sem, Bool.and_self, eq_self]; done) | omega | (simp only [List.length_cons, List.length_nil]; omega)) only [go_sem, ↓reduceIte, Nat.reduceEqDiff, Nat.reduceAdd, Nat.reduceMul, Nat.reduceSub, Int.reduceToNat, Nat.reduceBEq, List.size_toArray, List.length_cons, List.length_nil, Bool.false_and, Bool.true_and, Bool.or_false, Bool.false_or, Bool.and_false, Bool.and_true, s39]; rfl, by simp (disch := first | (simp only [go_sem, Bool.and_self, eq_self]; done) | omega | (simp only [List.length_cons, List.length_nil]; omega)) only [go_sem, ↓reduceIte, Nat.reduceEqDiff, Nat.reduceAdd, Nat.reduceMul, Nat.reduceSub, Int.reduceToNat, Nat.reduceBEq, List.size_toArray, List.length_cons, List.length_nil, Bool.false_and, Bool.true_and, Bool.or_false, Bool.false_or, Bool.and_false, Bool.and_true, s1], by simp (disch := first | (simp only [go_sem, Bool.and_self, eq_self]; done) | omega | (simp only [List.length_cons, List.length_nil]; omega)) only [go_sem, ↓reduceIte, Nat.reduceEqDiff, Nat.reduceAdd, Nat.reduceMul, Nat.reduceSub, Int.reduceToNat, Nat.reduceBEq, List.size_toArray, List.length_cons, List.length_nil, Bool.false_and, Bool.true_and, Bool.or_false, Bool.false_or, Bool.and_false, Bool.and_true, s2], by simp (disch := first | (simp only [go_sem, Bool.and_self, eq_self]; done) | omega | (simp only [List.length_cons, List.length_nil]; omega)) only [go_sem, ↓reduceIte, Nat.reduceEqDiff, Nat.reduceAdd, Nat.reduceMul, Nat.reduceSub, Int.reduceToNat, Nat.reduceBEq, List.size_toArray, List.length_cons, List.length_nil, Bool.false_and, Bool.true_and, Bool.or_false, Bool.false_or, Bool.and_false, Bool.and_true, s6], by simp (disch := first | (simp only [go_sem, Bool.and_self, eq_self]; done) | omega | (simp only [List.length_cons, List.length_nil]; omega)) only [go_sem, ↓reduceIte, Nat.reduceEqDiff, Nat.reduceAdd, Nat.reduceMul, Nat.reduceSub, Int.reduceToNat, Nat.reduceBEq, List.size_toArray, List.length_cons, List.length_nil, Bool.false_and, Bool.true_and, Bool.or_false, Bool.false_or, Bool.and_false, Bool.and_true, s7], by simp (disch := first | (simp only [go_sem, Bool.and_self, eq_self]; done) | omega | (simp only [List.length_cons, List.length_nil]; omega)) only [go_sem, ↓reduceIte, Nat.reduceEqDiff, Nat.reduceAdd, Nat.reduceMul, Nat.reduceSub, Int.reduceToNat, Nat.reduceBEq, List.size_toArray, List.length_cons, List.length_nil, Bool.false_and, Bool.true_and, Bool.or_false, Bool.false_or, Bool.and_false, Bool.and_true, s9], by simp (disch := first | (simp only [go_sem, Bool.and_self, eq_self]; done) | omega | (simp only [List.length_cons, List.length_nil]; omega)) only [go_sem, ↓reduceIte, Nat.reduceEqDiff, Nat.reduceAdd, Nat.reduceMul, Nat.reduceSub, Int.reduceToNat, Nat.reduceBEq, List.size_toArray, List.length_cons, List.length_nil, Bool.false_and, Bool.true_and, Bool.or_false, Bool.false_or, Bool.and_false, Bool.and_true, s11], by simp (disch := first | (simp only [go_sem, Bool.and_self, eq_self]; done) | omega | (simp only [List.length_cons, List.length_nil]; omega)) only [go_sem, ↓reduceIte, Nat.reduceEqDiff, Nat.reduceAdd, Nat.reduceMul, Nat.reduceSub, Int.reduceToNat, Nat.reduceBEq, List.size_toArray, List.length_cons, List.length_nil, Bool.false_and, Bool.true_and, Bool.or_false, Bool.false_or, Bool.and_false, Bool.and_true, hn], by simp (disch := first | (simp only [go_sem, Bool.and_self, eq_self]; done) | omega | (simp only [List.length_cons, List.length_nil]; omega)) only [go_sem, ↓reduceIte, Nat.reduceEqDiff, Nat.reduceAdd, Nat.reduceMul, Nat.reduceSub, Int.reduceToNat, Nat.reduceBEq, List.size_toArray, List.length_cons, List.length_nil, Bool.false_and, Bool.true_and, Bool.or_false, Bool.false_or, Bool.and_false, Bool.and_true, b1, hn], by simp (disch := first | (simp only [go_sem, Bool.and_self, eq_self]; done) | omega | (simp only [List.length_cons, List.length_nil]; omega)) only [go_sem, ↓reduceIte, Nat.reduceEqDiff, Nat.reduceAdd, Nat.reduceMul, Nat.reduceSub, Int.reduceToNat, Nat.reduceBEq, List.size_toArray, List.length_cons, List.length_nil, Bool.false_and, Bool.true_and, Bool.or_false, Bool.false_or, Bool.and_false, Bool.and_true, b2, hn], by simp (disch := first | (simp only [go_sem, Bool.and_self, eq_self]; done) | omega | (simp only [List.length_cons, List.length_nil]; omega)) only [go_sem, ↓reduceIte, Nat.reduceEqDiff, Nat.reduceAdd, Nat.reduceMul, Nat.reduceSub, Int.reduceToNat, Nat.reduceBEq, List.size_toArray, List.length_cons, List.length_nil, Bool.false_and, Bool.true_and, Bool.or_false, Bool.false_or, Bool.and_false, Bool.and_true, b3, hn], by omega, fun _ => by simp (disch := first | (simp only [go_sem, Bool.and_self, eq_self]; done) | omega | (simp only [List.length_cons, List.length_nil]; omega)) only [go_sem, ↓reduceIte, Nat.reduceEqDiff, Nat.reduceAdd, Nat.reduceMul, Nat.reduceSub, Int.reduceToNat, Nat.reduceBEq, List.size_toArray, List.length_cons, List.length_nil, Bool.false_and, Bool.true_and, Bool.or_false, Bool.false_or, Bool.and_false, Bool.and_true], by omega, fun _ => by simp (disch := first | (simp only [go_sem, Bool.and_self, eq_self]; done) | omega | (simp only [List.length_cons, List.length_nil]; omega)) only [go_sem, ↓reduceIte, Nat.reduceEqDiff, Nat.reduceAdd, Nat.reduceMul, Nat.reduceSub, Int.reduceToNat, Nat.reduceBEq, List.size_toArray, List.length_cons, List.length_nil, Bool.false_and, Bool.true_and, Bool.or_false, Bool.false_or, Bool.and_false, Bool.and_true], _, _, c, d, fun _ => rfl, by omega, by simp (disch := first | (simp only [go_sem, Bool.and_self, eq_self]; done) | omega | (simp only [List.length_cons, List.length_nil]; omega)) only [go_sem, ↓reduceIte, Nat.reduceEqDiff, Nat.reduceAdd, Nat.reduceMul, Nat.reduceSub, Int.reduceToNat, Nat.reduceBEq, List.size_toArray, List.length_cons, List.length_nil, Bool.false_and, Bool.true_and, Bool.or_false, Bool.false_or, Bool.and_false, Bool.and_true]⟩
    · change st 39 = I 1 at s39
      change h.nx = 7 at hn
      have s13 := s13' rfl
      have s58 := s58' rfl
      simp (disch := first | (simp only [go_sem, Bool.and_self, eq_self]; done) | omega | (simp only [List.length_cons, List.length_nil]; omega)) only [go_sem, ↓reduceIte, Nat.reduceEqDiff, Nat.reduceAdd, Nat.reduceMul, Nat.reduceSub, Int.reduceToNat, Nat.reduceBEq, List.size_toArray, List.length_cons, List.length_nil, Bool.false_and, Bool.true_and, Bool.or_false, Bool.false_or, Bool.and_false, Bool.and_true, s1, s2, s9, s11, s13, s58, s39, b3, b4, hn, l12, List.filterMap_cons, List.filterMap_nil, List.contains_nil, List.contains_cons, Bool.not_false, Bool.not_true, Bool.or_true, hst0]
      simp only [go_sem, hst0, List.filterMap_cons, List.filterMap_nil, s1, s2, s9, s11, s13, s58, s39, hn, b3, b4, n35, n36, n37, n38, n39, n45, n46, n47, n48, n49, n55, n56, n57, n58, n59, n65, n66, n67, n68, n69, n75, n76, n77, n78, n79, n85, n86, n87, n88, n89, decide_true, decide_false, Bool.not_false, Bool.not_true, Bool.and_true, Bool.true_and, Bool.false_and, Bool.and_false, Bool.true_or, Bool.or_true, Bool.or_false, Bool.false_or, List.contains_nil, List.contains_cons, List.nil_append, ↓reduceIte, Nat.reduceEqDiff, Nat.reduceBEq, Nat.reduceAdd, List.drop_succ_cons, List.drop_zero, List.getElem?_cons_zero, List.cons_append]
      simp only [go_sem, k701, hi7, hst0, s1, s2, s9, s11, s13, s58, s39, hn, b3, b4, n35, n36, n37, n38, n39, n45, n46, n47, n48, n49, n55, n56, n57, n58, n59, n65, n66, n67, n68, n69, n75, n76, n77, n78, n79, n85, n86, n87, n88, n89, decide_true, decide_false, Bool.not_false, Bool.not_true, Bool.and_true, Bool.true_and, Bool.false_and, Bool.and_false, Bool.true_or, Bool.or_true, Bool.or_false, Bool.false_or, List.contains_nil, List.contains_cons, List.nil_append, ↓reduceIte, Nat.reduceEqDiff, Nat.reduceBEq, Nat.reduceAdd, List.drop_succ_cons, List.drop_zero, List.getElem?_cons_zero, List.cons_append]
      simp only [List.size_toArray, List.length_cons, List.length_nil, Nat.reduceAdd, Nat.reduceBEq, Bool.false_and, Bool.and_false, Bool.true_and, Bool.false_or, Bool.or_false, Bool.true_or, Bool.or_true, Bool.and_true, regW_t]
      simp only [go_sem, hpk, hst0, List.filterMap_cons, List.filterMap_nil, s1, s2, s9, s11, s13, s58, s39, hn, b3, b4, n35, n36, n37, n38, n39, n45, n46, n47, n48, n49, n55, n56, n57, n58, n59, n65, n66, n67, n68, n69, n75, n76, n77, n78, n79, n85, n86, n87, n88, n89, decide_true, decide_false, Bool.not_false, Bool.not_true, Bool.and_true, Bool.true_and, Bool.false_and, Bool.and_false, Bool.true_or, Bool.or_true, Bool.or_false, Bool.false_or, List.contains_nil, List.contains_cons, List.nil_append, ↓reduceIte, Nat.reduceEqDiff, Nat.reduceBEq, Nat.reduceAdd, List.drop_succ_cons, List.drop_zero, List.getElem?_cons_zero, List.cons_append]
      simp only [go_sem, hpk, hse, k551, k521, k501, hix1, hst2, hst0, s1, s2, s9, s11, s13, s58, s39, hn, b3, b4, n35, n36, n37, n38, n39, n45, n46, n47, n48, n49, n55, n56, n57, n58, n59, n65, n66, n67, n68, n69, n75, n76, n77, n78, n79, n85, n86, n87, n88, n89, decide_true, decide_false, Bool.not_false, Bool.not_true, Bool.and_true, Bool.true_and, Bool.false_and, Bool.and_false, Bool.true_or, Bool.or_true, Bool.or_false, Bool.false_or, List.contains_nil, List.contains_cons, List.nil_append, ↓reduceIte, Nat.reduceEqDiff, Nat.reduceBEq, Nat.reduceAdd, List.drop_succ_cons, List.drop_zero, List.getElem?_cons_zero, List.cons_append]
      simp (disch := first | (simp only [go_sem, Bool.and_self, eq_self]; done) | omega | (simp only [List.length_cons, List.length_nil]; omega)) only [go_sem, ↓reduceIte, Nat.reduceEqDiff, Nat.reduceAdd, Nat.reduceMul, Nat.reduceSub, Int.reduceToNat, Nat.reduceBEq, List.size_toArray, List.length_cons, List.length_nil, Bool.false_and, Bool.true_and, Bool.or_false, Bool.false_or, Bool.and_false, Bool.and_true, hst2, s1, s2, s9, s11, s13, s58, s39, hn, b3, b4]
      have q1 := q1 (by omega)
      rw [ForK_normal]
      exact ⟨by omega, by simp (disch := first | (simp only [go_sem, Bool.and_self, eq_self]; done) | omega | (simp only [List.length_cons, List.length_nil]; omega)) only [go_sem, ↓reduceIte, Nat.reduceEqDiff, Nat.reduceAdd, Nat.reduceMul, Nat.reduceSub, Int.reduceToNat, Nat.reduceBEq, List.size_toArray, List.length_cons, List.length_nil, Bool.false_and, Bool.true_and, Bool.or_false, Bool.false_or, Bool.and_false, Bool.and_true, s39]; rfl, by simp (disch := first | (simp only [go_sem, Bool.and_self, eq_self]; done) | omega | (simp only [List.length_cons, List.length_nil]; omega)) only [go_sem, ↓reduceIte, Nat.reduceEqDiff, Nat.reduceAdd, Nat.reduceMul, Nat.reduceSub, Int.reduceToNat, Nat.reduceBEq, List.size_toArray, List.length_cons, List.length_nil, Bool.false_and, Bool.true_and, Bool.or_false, Bool.false_or, Bool.and_false, Bool.and_true, s1], by simp (disch := first | (simp only [go_sem, Bool.and_self, eq_self]; done) | omega | (simp only [List.length_cons, List.length_nil]; omega)) only [go_sem, ↓reduceIte, Nat.reduceEqDiff, Nat.reduceAdd, Nat.reduceMul, Nat.reduceSub, Int.reduceToNat, Nat.reduceBEq, List.size_toArray, List.length_cons, List.length_nil, Bool.false_and, Bool.true_and, Bool.or_false, Bool.false_or, Bool.and_false, Bool.and_true, s2], by simp (disch := first | (simp only [go_sem, Bool.and_self, eq_self]; done) | omega | (simp only [List.length_cons, List.length_nil]; omega)) only [go_sem, ↓reduceIte, Nat.reduceEqDiff, Nat.reduceAdd, Nat.reduceMul, Nat.reduceSub, Int.reduceToNat, Nat.reduceBEq, List.size_toArray, List.length_cons, List.length_nil, Bool.false_and, Bool.true_and, Bool.or_false, Bool.false_or, Bool.and_false, Bool.and_true, s6], by simp (disch := first | (simp only [go_sem, Bool.and_self, eq_self]; done) | omega | (simp only [List.length_cons, List.length_nil]; omega)) only [go_sem, ↓reduceIte, Nat.reduceEqDiff, Nat.reduceAdd, Nat.reduceMul, Nat.reduceSub, Int.reduceToNat, Nat.reduceBEq, List.size_toArray, List.length_cons, List.length_nil, Bool.false_and, Bool.true_and, Bool.or_false, Bool.false_or, Bool.and_false, Bool.and_true, s7], by simp (disch := first | (simp only [go_sem, Bool.and_self, eq_self]; done) | omega | (simp only [List.length_cons, List.length_nil]; omega)) only [go_sem, ↓reduceIte, Nat.reduceEqDiff, Nat.reduceAdd, Nat.reduceMul, Nat.reduceSub, Int.reduceToNat, Nat.reduceBEq, List.size_toArray, List.length_cons, List.length_nil, Bool.false_and, Bool.true_and, Bool.or_false, Bool.false_or, Bool.and_false, Bool.and_true, s9], by simp (disch := first | (simp only [go_sem, Bool.and_self, eq_self]; done) | omega | (simp only [List.length_cons, List.length_nil]; omega)) only [go_sem, ↓reduceIte, Nat.reduceEqDiff, Nat.reduceAdd, Nat.reduceMul, Nat.reduceSub, Int.reduceToNat, Nat.reduceBEq, List.size_toArray, List.length_cons, List.length_nil, Bool.false_and, Bool.true_and, Bool.or_false, Bool.false_or, Bool.and_false, Bool.and_true, s11], by simp (disch := first | (simp only [go_sem, Bool.and_self, eq_self]; done) | omega | (simp only [List.length_cons, List.length_nil]; omega)) only [go_sem, ↓reduceIte, Nat.reduceEqDiff, Nat.reduceAdd, Nat.reduceMul, Nat.reduceSub, Int.reduceToNat, Nat.reduceBEq, List.size_toArray, List.length_cons, List.length_nil, Bool.false_and, Bool.true_and, Bool.or_false, Bool.false_or, Bool.and_false, Bool.and_true, hn], by simp (disch := first | (simp only [go_sem, Bool.and_self, eq_self]; done) | omega | (simp only [List.length_cons, List.length_nil]; omega)) only [go_sem, ↓reduceIte, Nat.reduceEqDiff, Nat.reduceAdd, Nat.reduceMul, Nat.reduceSub, Int.reduceToNat, Nat.reduceBEq, List.size_toArray, List.length_cons, List.length_nil, Bool.false_and, Bool.true_and, Bool.or_false, Bool.false_or, Bool.and_false, Bool.and_true, b1, hn], by simp (disch := first | (simp only [go_sem, Bool.and_self, eq_self]; done) | omega | (simp only [List.length_cons, List.length_nil]; omega)) only [go_sem, ↓reduceIte, Nat.reduceEqDiff, Nat.reduceAdd, Nat.reduceMul, Nat.reduceSub, Int.reduceToNat, Nat.reduceBEq, List.size_toArray, List.length_cons, List.length_nil, Bool.false_and, Bool.true_and, Bool.or_false, Bool.false_or, Bool.and_false, Bool.and_true, b2, hn], by simp (disch := first | (simp only [go_sem, Bool.and_self, eq_self]; done) | omega | (simp only [List.length_cons, List.length_nil]; omega)) only [go_sem, ↓reduceIte, Nat.reduceEqDiff, Nat.reduceAdd, Nat.reduceMul, Nat.reduceSub, Int.reduceToNat, Nat.reduceBEq, List.size_toArray, List.length_cons, List.length_nil, Bool.false_and, Bool.true_and, Bool.or_false, Bool.false_or, Bool.and_false, Bool.and_true, b3, hn], by omega, by omega, by omega, by omega, a, b, _, _, fun _ => q1, fun _ => rfl, by simp (disch := first | (simp only [go_sem, Bool.and_self, eq_self]; done) | omega | (simp only [List.length_cons, List.length_nil]; omega)) only [go_sem, ↓reduceIte, Nat.reduceEqDiff, Nat.reduceAdd, Nat.reduceMul, Nat.reduceSub, Int.reduceToNat, Nat.reduceBEq, List.size_toArray, List.length_cons, List.length_nil, Bool.false_and, Bool.true_and, Bool.or_false, Bool.false_or, Bool.and_false, Bool.and_true]⟩
  · rintro st h ⟨s6, s7, s11, hnx, b1, b2, a, b, c, d, q1, q2, b4⟩
    have l4 : 4 < h.nx := by omega
    have l1 : 1 < h.nx := by omega
    have l2 : 2 < h.nx := by omega
    have hl0 : ∀ u, loadC (some (.struct u)) (some 2) (some ([I a, I b, I c, I d], 0)) = some (.agg [I a, I b]) := fun u => loadC_agg _ 2 rfl _ 0 (by simp)
    have hl2 : ∀ u, loadC (some (.struct u)) (some 2) (some ([I a, I b, I c, I d], 2)) = some (.agg [I c, I d]) := fun u => loadC_agg _ 2 rfl _ 2 (by simp)
    simp (disch := first | (simp only [go_sem, Bool.and_self, eq_self]; done) | omega | (simp only [List.length_cons, List.length_nil]; omega)) only [go_sem, ↓reduceIte, Nat.reduceEqDiff, Nat.reduceAdd, Nat.reduceMul, Nat.reduceSub, Int.reduceToNat, Nat.reduceBEq, List.size_toArray, List.length_cons, List.length_nil, Bool.false_and, Bool.true_and, Bool.or_false, Bool.false_or, Bool.and_false, Bool.and_true, s6, s7, s11, hix0, hix1, b1, b2, b4, l1, l2, l4, hl0, hl2, List.filterMap_cons, List.filterMap_nil, List.contains_nil, List.contains_cons, Bool.not_false, Bool.not_true, Bool.or_true, hst0]
    rw [q1, q2]

end Go.Proofs.Ytpkakapbepkfdaa

set_option linter.unusedVariables false
set_option linter.unusedSimpArgs false
set_option maxRecDepth 10000
namespace Go.Proofs.Ytpkakapbepkfdaa
open Go Go.Am

variable {h h' : Hp} {K : AV → Hp → Prop}

theorem f41_nil (v x : Int) : Con Try.prog cfgX 41 [.agg [.nil, .nil], I v, I x] (.tup [.agg [.nil, .nil], I 2]) := by
  have n20 : ¬ (2 : Int) = 0 := by decide
  have k46n : Con Try.prog cfg 46 [.agg [.nil, .nil]] (.tup [.agg [.nil, .nil, I 0], I 2]) := ⟨100, by kernel_rfl⟩
  have kn := fun h h' K => ConW_any (h := h) (h' := h') (K := K) (lift (by decide) k46n) rfl
  have hi : ∀ h : Hp, importR h (.tup [.agg [.nil, .nil, I 0], I 2]) = (.tup [.agg [.nil, .nil, I 0], I 2], h) := fun _ => rfl
  have hs : ∀ h : Hp, sealA h (.agg [.nil, .nil]) = some (.agg [.nil, .nil], h) := fun _ => rfl
  have hex : ∀ (h : Hp), exportR Try.prog false false [24, 30] h (.tup [.agg [.nil, .nil], I 2]) = some (.tup [.agg [.nil, .nil], I 2]) := fun _ => rfl
  refine Con_intro Try.func41 rfl okX41 (Nat.le_of_ble_eq_true rfl) rfl ?_
  simp only [Try.f41, Option.getD_some, initSt3]
  simp (disch := first | (simp only [go_sem, Bool.and_self, eq_self]; done) | omega | (simp only [List.length_cons, List.length_nil]; omega)) only [go_sem, ↓reduceIte, Nat.reduceEqDiff, Nat.reduceAdd, Nat.reduceMul, Nat.reduceSub, Int.reduceToNat, Nat.reduceBEq, List.size_toArray, List.length_cons, List.length_nil, Bool.false_and, Bool.true_and, Bool.or_false, Bool.false_or, Bool.and_false, Bool.and_true, kn, hi, n20, hs, hex]
theorem f42_nil (v w : Int) : Con Try.prog cfgX 42 [.agg [.nil, .nil], I v, I w] (.tup [.agg [I 0, I 0], .agg [I 0, I 0], I 2]) := by
  have n20 : ¬ (2 : Int) = 0 := by decide
  have k46n : Con Try.prog cfg 46 [.agg [.nil, .nil]] (.tup [.agg [.nil, .nil, I 0], I 2]) := ⟨100, by kernel_rfl⟩
  have kn := fun h h' K => ConW_any (h := h) (h' := h') (K := K) (lift (by decide) k46n) rfl
  have hi : ∀ h : Hp, importR h (.tup [.agg [.nil, .nil, I 0], I 2]) = (.tup [.agg [.nil, .nil, I 0], I 2], h) := fun _ => rfl
  have hs : ∀ h : Hp, sealA h (.agg [.nil, .nil]) = some (.agg [.nil, .nil], h) := fun _ => rfl
  refine Con_intro Try.func42 rfl okX42 (Nat.le_of_ble_eq_true rfl) rfl ?_
  simp only [Try.f42, Option.getD_some, initSt3]
  simp (disch := first | (simp only [go_sem, Bool.and_self, eq_self]; done) | omega | (simp only [List.length_cons, List.length_nil]; omega)) only [go_sem, ↓reduceIte, Nat.reduceEqDiff, Nat.reduceAdd, Nat.reduceMul, Nat.reduceSub, Int.reduceToNat, Nat.reduceBEq, List.size_toArray, List.length_cons, List.length_nil, Bool.false_and, Bool.true_and, Bool.or_false, Bool.false_or, Bool.and_false, Bool.and_true, kn, hi, n20, hs]
theorem one_fact {n : Nat} {w : Int} (hw : 0 ≤ w ∧ w < n) (x : Int) (hx : 0 ≤ x ∧ x ≤ 1) : factsB n [(w, x)] = true := by
  refine all_range fun i hi => ?_
  have : i = 0 := by simpa using hi
  subst this
  simp [factB, inB, nth]; omega
theorem ref_one {p t : List (List Int)} (h1 : netB p t = true) {w : Int} (hw : 0 ≤ w ∧ w < p.length) : refC p t [(w, 1)] [] = .tup [redu (sumB p t [(w, 1)]) (16 ^ p.length), I 0] := by
  have hf := one_fact (n := p.length) hw 1 (by decide)
  have N := Net.of h1
  have hz : refS p t [] [] = 16 ^ p.length := by
    rw [← total_weight N]
    refine sumN_congr fun x hx => ?_
    have : agreeB (rowN p.length x) [] = true := rfl
    simp [refT, this]
  have hs := sum_ref (p := p) (t := t) (g := []) (f := [(w, 1)]) rfl hf (by rw [clashB, List.any_eq_false]; intro q _; simp [phi])
  have hp := pow16_pos p.length
  have h0 : factsB p.length [] = true := rfl
  rw [refC, hf, h0, hz, ← hs]
  have hne : ¬ (16 : Int) ^ p.length = 0 := by omega
  simp only [Bool.and_self, if_true, hne, if_false, List.nil_append]
set_option maxHeartbeats 1000000 in
theorem f13_con (p t : List (List Int)) (v x : Int) (hp : okLL p) (ht : okLL t) : Con Try.prog cfgX 13 [.agg [LLI p, LLI t], I v, I x] (.bool true) := by
  have ml : maxLen = 9223372036854775807 := by decide
  have k16 := fun h h' K => ConW_any (h := h) (h' := h') (K := K) (lift (by decide) (f16_con p t hp ht)) (by unfold netV; split <;> rfl)
  have n20 : ¬ (2 : Int) = 0 := by decide
  have z00 : ((0 : Nat) : Int) = 0 := rfl
  have okp := tableM_ok p
  have okt := tableM_ok t
  have hs : ∀ h : Hp, sealA h (.agg [.nil, .nil]) = some (.agg [.nil, .nil], h) := fun _ => rfl
  have hi2 : ∀ (h : Hp) (c : Int), importR h (.tup [.agg [.nil, .nil], I c]) = (.tup [.agg [.nil, .nil], I c], h) := fun _ _ => rfl
  generalize tableM p = p' at *
  generalize tableM t = t' at *
  by_cases hnil : p' = [] ∧ t' = []
  · obtain ⟨rfl, rfl⟩ := hnil
    rw [netV_nil] at k16
    have k41 := fun h h' K => ConW_any (h := h) (h' := h') (K := K) (f41_nil v x) rfl
    have k42 := fun h h' K => ConW_num (h := h) (h' := h') (K := K) (f42_nil v x) rfl
    have k19 := fun h h' K => ConW_num (h := h) (h' := h') (K := K) (lift (by decide) f19_nil) rfl
    have hi : ∀ h : Hp, importR h (.agg [.nil, .nil]) = (.agg [.nil, .nil], h) := fun _ => rfl
    refine Con_intro Try.func13 rfl okX13 (Nat.le_of_ble_eq_true rfl) rfl ?_
    simp only [Try.f13, Option.getD_some, initSt3]
    simp (disch := first | (simp only [go_sem, Bool.and_self, eq_self]; done) | omega | (simp only [List.length_cons, List.length_nil]; omega)) only [go_sem, ↓reduceIte, Nat.reduceEqDiff, Nat.reduceAdd, Nat.reduceMul, Nat.reduceSub, Int.reduceToNat, Nat.reduceBEq, List.size_toArray, List.length_cons, List.length_nil, Bool.false_and, Bool.true_and, Bool.or_false, Bool.false_or, Bool.and_false, Bool.and_true, k16, k41, k42, k19, hi, hi2, hs, n20, z00]
  rw [netV_cons hnil] at k16
  have hi : ∀ h : Hp, importR h (.agg [LLI p', LLI t']) = (.agg [LLI p', LLI t'], h) := fun _ => rfl
  have kr := fun h h' K => ConW_num (h := h) (h' := h') (K := K) (lift (by decide) (f19_con p' t' okp okt)) rfl
  have k41 := fun h h' K => ConW_any (h := h) (h' := h') (K := K) (f41_con p' t' okp okt v x) (by unfold forR; split <;> rfl)
  have k42 := fun h h' K => ConW_num (h := h) (h' := h') (K := K) (f42_con p' t' okp okt v x) (by unfold efR; split <;> rfl)
  by_cases hbad : netB p' t' = false ∨ v < 0 ∨ (p'.length : Int) ≤ v
  · have e1 : forR p' t' v x = .tup [.agg [.nil, .nil], I 2] := by
      unfold forR
      rw [if_neg]
      simp only [inB, Bool.and_eq_true, decide_eq_true_eq]
      rintro ⟨a, ⟨b, c⟩, d⟩
      rcases hbad with h | h | h
      · rw [a] at h; cases h
      · omega
      · omega
    have e2 : efR p' t' v x = .tup [.agg [I 0, I 0], .agg [I 0, I 0], I 2] := by
      unfold efR
      rw [if_neg]
      simp only [inB, Bool.and_eq_true, decide_eq_true_eq]
      rintro ⟨a, ⟨b, c⟩, d⟩
      rcases hbad with h | h | h
      · rw [a] at h; cases h
      · omega
      · omega
    rw [e1] at k41
    rw [e2] at k42
    cases h1 : netB p' t' with
    | false =>
      refine Con_intro Try.func13 rfl okX13 (Nat.le_of_ble_eq_true rfl) rfl ?_
      simp only [Try.f13, Option.getD_some, initSt3]
      simp (disch := first | (simp only [go_sem, Bool.and_self, eq_self]; done) | omega | (simp only [List.length_cons, List.length_nil]; omega)) only [go_sem, ↓reduceIte, Nat.reduceEqDiff, Nat.reduceAdd, Nat.reduceMul, Nat.reduceSub, Int.reduceToNat, Nat.reduceBEq, List.size_toArray, List.length_cons, List.length_nil, Bool.false_and, Bool.true_and, Bool.or_false, Bool.false_or, Bool.and_false, Bool.and_true, k16, k41, k42, kr, hi, hi2, h1, hs, n20, z00]
    | true =>
      by_cases hv0 : v < 0
      case pos =>
        refine Con_intro Try.func13 rfl okX13 (Nat.le_of_ble_eq_true rfl) rfl ?_
        simp only [Try.f13, Option.getD_some, initSt3]
        simp (disch := first | (simp only [go_sem, Bool.and_self, eq_self]; done) | omega | (simp only [List.length_cons, List.length_nil]; omega)) only [go_sem, ↓reduceIte, Nat.reduceEqDiff, Nat.reduceAdd, Nat.reduceMul, Nat.reduceSub, Int.reduceToNat, Nat.reduceBEq, List.size_toArray, List.length_cons, List.length_nil, Bool.false_and, Bool.true_and, Bool.or_false, Bool.false_or, Bool.and_false, Bool.and_true, k16, k41, k42, kr, hi, hi2, h1, hs, n20, z00, hv0]
      case neg =>
        have hv1 : (p'.length : Int) ≤ v := by
          rcases hbad with h | h | h
          · rw [h1] at h; cases h
          · exact absurd h hv0
          · exact h
        refine Con_intro Try.func13 rfl okX13 (Nat.le_of_ble_eq_true rfl) rfl ?_
        simp only [Try.f13, Option.getD_some, initSt3]
        simp (disch := first | (simp only [go_sem, Bool.and_self, eq_self]; done) | omega | (simp only [List.length_cons, List.length_nil]; omega)) only [go_sem, ↓reduceIte, Nat.reduceEqDiff, Nat.reduceAdd, Nat.reduceMul, Nat.reduceSub, Int.reduceToNat, Nat.reduceBEq, List.size_toArray, List.length_cons, List.length_nil, Bool.false_and, Bool.true_and, Bool.or_false, Bool.false_or, Bool.and_false, Bool.and_true, k16, k41, k42, kr, hi, hi2, h1, hs, n20, z00, hv0, hv1]
  have h1 : netB p' t' = true := by
    cases h : netB p' t' with
    | true => rfl
    | false => exact absurd (.inl h) hbad
  have hv0 : ¬ v < 0 := fun h => hbad (.inr (.inl h))
  have hv1 : ¬ (p'.length : Int) ≤ v := fun h => hbad (.inr (.inr h))
  have N := Net.of h1
  have hn1 := N.n1
  have hvn : ((v.toNat : Nat) : Int) = v := by omega
  have k44 := fun (x : Int) (hx : 0 ≤ x ∧ x ≤ 1) h h' K => ConW_any (h := h) (h' := h') (K := K) (lift (by decide) (f44_con p' t' N v.toNat (by omega) x hx)) rfl
  rw [hvn] at k44
  have hif : ∀ (h : Hp) (x : Int), importR h (.agg [LLI (forceP p' v.toNat), LLI (forceT p' t' v.toNat x)]) = (.agg [LLI (forceP p' v.toNat), LLI (forceT p' t' v.toNat x)], h) := fun _ _ => rfl
  have hif2 : ∀ (h : Hp) (x c : Int), importR h (.tup [.agg [LLI (forceP p' v.toNat), LLI (forceT p' t' v.toNat x)], I c]) = (.tup [.agg [LLI (forceP p' v.toNat), LLI (forceT p' t' v.toNat x)], I c], h) := fun _ _ _ => rfl
  have k440 := k44 0 (by decide)
  have k441 := k44 1 (by decide)
  have fnet := fun (x : Int) (hx : 0 ≤ x ∧ x ≤ 1) => force_net h1 (v := v.toNat) hx
  have hbs := fun h => bsB_row (P := Try.prog) (h := h) (f := eP) (sz := 2) 46 (x, 1) (0, 0) isz46 izero46 (by decide)
  have e12 : eP (x, 1) = [I x, I 1] := rfl
  rw [e12] at hbs
  have hvB : inB v 0 (p'.length - 1) = true := by simp [inB]; omega
  have hfn : ((forceP p' v.toNat).length : Int) = p'.length := by rw [forceP_len]
  -- what Effect answers
  have eff : 0 ≤ x ∧ x < p'.length → efR p' t' v x = .tup [efF p' t' v 0 x, efF p' t' v 1 x, I 0] := fun h => by
    have : inB x 0 (p'.length - 1) = true := by simp [inB]; omega
    simp [efR, h1, hvB, this]
  have effb : ¬ (0 ≤ x ∧ x < p'.length) → efR p' t' v x = .tup [.agg [I 0, I 0], .agg [I 0, I 0], I 2] := fun h => by
    have : inB x 0 (p'.length - 1) = false := by
      rw [Bool.eq_false_iff]; intro h2
      simp only [inB, Bool.and_eq_true, decide_eq_true_eq] at h2; omega
    simp [efR, this]
  have k24 : 0 ≤ x ∧ x < p'.length → ∀ (y : Int), 0 ≤ y ∧ y ≤ 1 → ∀ h h' K, ConW Try.prog cfgX 24 h (some ([.agg [LLI (forceP p' v.toNat), LLI (forceT p' t' v.toNat y)], L eP [(x, 1)], .lst []], h')) K = K (.tup [efF p' t' v y x, I 0]) h := fun hx y hy h h' K => by
    have hr := ref_one (fnet y hy) (w := x) (by rw [forceP_len]; exact hx)
    rw [forceP_len] at hr
    have := ConW_num (h := h) (h' := h') (K := K) (lift (by decide) (f24_con (forceP p' v.toNat) (forceT p' t' v.toNat y) (Net.of (fnet y hy)) [(x, 1)] [] (by simp [ml]) (by simp))) (refC_scalar _ _ _ _)
    rw [hr] at this
    exact this
  have hex : ∀ y, ∃ a b : Int, efF p' t' v y x = .agg [I a, I b] := fun y => ⟨_, _, rfl⟩
  obtain ⟨a0, b0, he0⟩ := hex 0
  obtain ⟨a1, b1, he1⟩ := hex 1
  rw [he0, he1] at eff
  by_cases hx1 : x = 0 ∨ x = 1
  · have hxx : 0 ≤ x ∧ x ≤ 1 := by omega
    have e1 : forR p' t' v x = .tup [.agg [LLI (forceP p' v.toNat), LLI (forceT p' t' v.toNat x)], I 0] := by
      have : inB x 0 1 = true := by simp [inB]; omega
      simp [forR, h1, hvB, this]
    rw [e1] at k41
    have k44x := k44 x hxx
    have okf := okLL_net (fnet x hxx)
    have k43 := fun h h' K => ConW_num (h := h) (h' := h') (K := K) (lift (by decide) (f43_con _ _ okf.1 okf.2)) rfl
    have hx0 : ¬ x < 0 := by omega
    have hx7 : decide (x = 0) = true ∨ (decide (x = 0) = false ∧ decide (x = 1) = true) := by
      rcases hx1 with h | h
      · exact .inl (by simp [h])
      · exact .inr (by simp [h])
    by_cases hxn : x < p'.length
    case pos =>
      rw [eff (by omega)] at k42
      have c0 := k24 (by omega) 0 (by decide)
      have c1 := k24 (by omega) 1 (by decide)
      rw [he0] at c0
      rw [he1] at c1
      have hxn' : ¬ (p'.length : Int) ≤ x := by omega
      rcases hx7 with h7 | ⟨h7, h8⟩
      case inl =>
        refine Con_intro Try.func13 rfl okX13 (Nat.le_of_ble_eq_true rfl) rfl ?_
        simp only [Try.f13, Option.getD_some, initSt3]
        simp (disch := first | (simp only [go_sem, Bool.and_self, eq_self]; done) | omega | (simp only [List.length_cons, List.length_nil]; omega)) only [go_sem, ↓reduceIte, Nat.reduceEqDiff, Nat.reduceAdd, Nat.reduceMul, Nat.reduceSub, Int.reduceToNat, Nat.reduceBEq, List.size_toArray, List.length_cons, List.length_nil, Bool.false_and, Bool.true_and, Bool.or_false, Bool.false_or, Bool.and_false, Bool.and_true, k16, k41, k42, kr, hi, hif, hif2, h1, hv0, hv1, k44x, k43, hx0, hxn', h7, k440, k441, hbs, c0, c1, eq_self, decide_true]
      case inr =>
        refine Con_intro Try.func13 rfl okX13 (Nat.le_of_ble_eq_true rfl) rfl ?_
        simp only [Try.f13, Option.getD_some, initSt3]
        simp (disch := first | (simp only [go_sem, Bool.and_self, eq_self]; done) | omega | (simp only [List.length_cons, List.length_nil]; omega)) only [go_sem, ↓reduceIte, Nat.reduceEqDiff, Nat.reduceAdd, Nat.reduceMul, Nat.reduceSub, Int.reduceToNat, Nat.reduceBEq, List.size_toArray, List.length_cons, List.length_nil, Bool.false_and, Bool.true_and, Bool.or_false, Bool.false_or, Bool.and_false, Bool.and_true, k16, k41, k42, kr, hi, hif, hif2, h1, hv0, hv1, k44x, k43, hx0, hxn', h7, h8, k440, k441, hbs, c0, c1, eq_self, decide_true]
    case neg =>
      rw [effb (by omega)] at k42
      have hxn' : (p'.length : Int) ≤ x := by omega
      rcases hx7 with h7 | ⟨h7, h8⟩
      case inl =>
        refine Con_intro Try.func13 rfl okX13 (Nat.le_of_ble_eq_true rfl) rfl ?_
        simp only [Try.f13, Option.getD_some, initSt3]
        simp (disch := first | (simp only [go_sem, Bool.and_self, eq_self]; done) | omega | (simp only [List.length_cons, List.length_nil]; omega)) only [go_sem, ↓reduceIte, Nat.reduceEqDiff, Nat.reduceAdd, Nat.reduceMul, Nat.reduceSub, Int.reduceToNat, Nat.reduceBEq, List.size_toArray, List.length_cons, List.length_nil, Bool.false_and, Bool.true_and, Bool.or_false, Bool.false_or, Bool.and_false, Bool.and_true, k16, k41, k42, kr, hi, hif, hif2, h1, hv0, hv1, k44x, k43, hx0, hxn', h7, n20]
      case inr =>
        refine Con_intro Try.func13 rfl okX13 (Nat.le_of_ble_eq_true rfl) rfl ?_
        simp only [Try.f13, Option.getD_some, initSt3]
        simp (disch := first | (simp only [go_sem, Bool.and_self, eq_self]; done) | omega | (simp only [List.length_cons, List.length_nil]; omega)) only [go_sem, ↓reduceIte, Nat.reduceEqDiff, Nat.reduceAdd, Nat.reduceMul, Nat.reduceSub, Int.reduceToNat, Nat.reduceBEq, List.size_toArray, List.length_cons, List.length_nil, Bool.false_and, Bool.true_and, Bool.or_false, Bool.false_or, Bool.and_false, Bool.and_true, k16, k41, k42, kr, hi, hif, hif2, h1, hv0, hv1, k44x, k43, hx0, hxn', h7, h8, n20]
  · have e1 : forR p' t' v x = .tup [.agg [.nil, .nil], I 2] := by
      have : inB x 0 1 = false := by
        rw [Bool.eq_false_iff]; intro h2
        simp only [inB, Bool.and_eq_true, decide_eq_true_eq] at h2; omega
      simp [forR, this]
    rw [e1] at k41
    have h7 : ¬ x = 0 := fun h => hx1 (.inl h)
    have h8 : ¬ x = 1 := fun h => hx1 (.inr h)
    by_cases hx0 : x < 0
    case pos =>
      rw [effb (by omega)] at k42
      refine Con_intro Try.func13 rfl okX13 (Nat.le_of_ble_eq_true rfl) rfl ?_
      simp only [Try.f13, Option.getD_some, initSt3]
      simp (disch := first | (simp only [go_sem, Bool.and_self, eq_self]; done) | omega | (simp only [List.length_cons, List.length_nil]; omega)) only [go_sem, ↓reduceIte, Nat.reduceEqDiff, Nat.reduceAdd, Nat.reduceMul, Nat.reduceSub, Int.reduceToNat, Nat.reduceBEq, List.size_toArray, List.length_cons, List.length_nil, Bool.false_and, Bool.true_and, Bool.or_false, Bool.false_or, Bool.and_false, Bool.and_true, k16, k41, k42, kr, hi, hi2, h1, hs, hv0, hv1, hx0, h7, h8, n20, z00]
    case neg =>
      by_cases hxn : x < p'.length
      case pos =>
        rw [eff (by omega)] at k42
        have c0 := k24 (by omega) 0 (by decide)
        have c1 := k24 (by omega) 1 (by decide)
        rw [he0] at c0
        rw [he1] at c1
        have hxn' : ¬ (p'.length : Int) ≤ x := by omega
        refine Con_intro Try.func13 rfl okX13 (Nat.le_of_ble_eq_true rfl) rfl ?_
        simp only [Try.f13, Option.getD_some, initSt3]
        simp (disch := first | (simp only [go_sem, Bool.and_self, eq_self]; done) | omega | (simp only [List.length_cons, List.length_nil]; omega)) only [go_sem, ↓reduceIte, Nat.reduceEqDiff, Nat.reduceAdd, Nat.reduceMul, Nat.reduceSub, Int.reduceToNat, Nat.reduceBEq, List.size_toArray, List.length_cons, List.length_nil, Bool.false_and, Bool.true_and, Bool.or_false, Bool.false_or, Bool.and_false, Bool.and_true, k16, k41, k42, kr, hi, hi2, hif, h1, hs, hv0, hv1, hx0, hxn', h7, h8, n20, z00, k440, k441, hbs, c0, c1, eq_self, decide_true]
      case neg =>
        rw [effb (by omega)] at k42
        have hxn' : (p'.length : Int) ≤ x := by omega
        refine Con_intro Try.func13 rfl okX13 (Nat.le_of_ble_eq_true rfl) rfl ?_
        simp only [Try.f13, Option.getD_some, initSt3]
        simp (disch := first | (simp only [go_sem, Bool.and_self, eq_self]; done) | omega | (simp only [List.length_cons, List.length_nil]; omega)) only [go_sem, ↓reduceIte, Nat.reduceEqDiff, Nat.reduceAdd, Nat.reduceMul, Nat.reduceSub, Int.reduceToNat, Nat.reduceBEq, List.size_toArray, List.length_cons, List.length_nil, Bool.false_and, Bool.true_and, Bool.or_false, Bool.false_or, Bool.and_false, Bool.and_true, k16, k41, k42, kr, hi, hi2, h1, hs, hv0, hv1, hx0, hxn', h7, h8, n20, z00]

end Go.Proofs.Ytpkakapbepkfdaa
