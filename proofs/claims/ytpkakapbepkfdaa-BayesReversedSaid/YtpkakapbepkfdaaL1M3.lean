/-
  mod, tame: some network, made of any.
  ints: two lists compared.
  Valid fractions; networks on their way.
  The weights of all rows add up.
  The reference's Descendant.
  Lists of variables: what they contain; trails.
  Trails.
  What is opened; the reference's Active.
-/
import Derived.Test.YtpkakapbepkfdaaL1M2
set_option linter.unusedVariables false
set_option linter.unusedSimpArgs false
set_option maxRecDepth 10000
namespace Go.Proofs.Ytpkakapbepkfdaa
open Go Go.Am

variable {h h' : Hp} {K : AV → Hp → Prop}

/-- A contract whose answer is only described. -/
theorem Con_introE {P : Program} {cfg : Cfg} {f : FuncId} {fn : Func} {args : List AV} {R : AV → Prop} (hf : P.funcs[f]? = some fn) (hbody : fn.body.isSome = true) (hok : funcOk cfg fn (fn.body.getD .skip) = true) (hl : args.length ≤ fn.ntmps) (hext : cfg.ext f args = none)
    (hw : WP P cfg (fn.body.getD .skip) (initSt args) Hp.empty (fun x st h => ∃ r, RetK P (cfg.own f) (cfg.keepNil f) fn.results.toList fn.resultTypes.toList r x st h ∧ R r)) : ∃ r, Con P cfg f args r ∧ R r := by
  obtain ⟨k, x, st', h', e, r, hr, q⟩ := hw
  exact ⟨r, Con_intro hf hbody hok hl hext ⟨k, x, st', h', e, hr⟩, q⟩

@[go_sem] theorem und105 : Try.prog.underlying 105 = some (.int .u64) := Try.underlying105
def modI (x n : Int) : Int := x % 18446744073709551616 % n
theorem modI_bounds (x : Int) {n : Int} (hn : 0 < n) : 0 ≤ modI x n ∧ modI x n < n := ⟨Int.emod_nonneg _ (by omega), Int.emod_lt_of_pos _ hn⟩
theorem f31_con (x n : Int) (hn : 0 < n ∧ n ≤ 9223372036854775807) : Con Try.prog cfg 31 [I x, I n] (I (modI x n)) := by
  have hw : ∀ y, IntKind.wrap .u64 y = y % 18446744073709551616 := fun y => rfl
  have hn2 : n % 18446744073709551616 = n := Int.emod_eq_of_lt (by omega) (by omega)
  have hx := Int.emod_nonneg x (b := 18446744073709551616) (by decide)
  have ht : (x % 18446744073709551616).tmod n = modI x n := by rw [modI, Int.tmod_eq_emod_of_nonneg hx]
  have hb := modI_bounds x hn.1
  have hne : ¬ n = 0 := by omega
  refine Con_intro Try.func31 rfl ok31 (Nat.le_of_ble_eq_true rfl) rfl ?_
  simp only [Try.f31, Option.getD_some, initSt2]
  simp (disch := first | (simp only [go_sem, Bool.and_self, eq_self]; done) | omega | (simp only [List.length_cons, List.length_nil]; omega)) only [go_sem, ↓reduceIte, Nat.reduceEqDiff, Nat.reduceAdd, Nat.reduceMul, Nat.reduceSub, Int.reduceToNat, Nat.reduceBEq, List.size_toArray, List.length_cons, List.length_nil, Bool.false_and, Bool.true_and, Bool.or_false, Bool.false_or, Bool.and_false, Bool.and_true, hw, hn2, ht, hne]
theorem k31 (x n : Int) (hn : 0 < n ∧ n ≤ 9223372036854775807) : ConW Try.prog cfg 31 h (some ([I x, I n], h')) K = K (I (modI x n)) h := ConW_num (f31_con x n hn) rfl

/-! ### Lists that may be nil -/
def LV (v : AV) (p : List (List Int)) : Prop := v = LLI p ∨ (v = .nil ∧ p = [])
theorem LV.len {v : AV} {p : List (List Int)} (l : LV v p) (h : Hp) (lim : Option Nat) : lenB (some (.slice 25)) v h lim = some (I p.length) := by
  rcases l with rfl | ⟨rfl, rfl⟩
  · exact lenB_L _ _ _
  · rfl
theorem LV.cell {v : AV} {p : List (List Int)} (l : LV v p) : v.isCell = true := by
  rcases l with rfl | ⟨rfl, rfl⟩ <;> rfl
theorem LV.some {v : AV} {p : List (List Int)} (l : LV v p) {i : Nat} (hi : i < p.length) : v = LLI p := by
  rcases l with rfl | ⟨_, rfl⟩
  · rfl
  · cases hi

/-! ### Rows of a network -/
def rowOK (i : Nat) (r t : List Int) : Bool :=
  decide (r.length ≤ 3) && decide (t.length = 2 ^ r.length) && (List.range r.length).all (parB r i) && !t.any fun x => !inB x 0 16
theorem rowB_def (p t : List (List Int)) (i : Nat) : rowB p t i = rowOK i (nth p i) (nth t i) := rfl
/-- What 'tame' has in memory between two rounds. -/
structure TF (pv tv : AV) (P T : List (List Int)) (v w : AV) (h : Hp) : Prop where
  nx : 4 ≤ h.nx
  b1 : h.bl 1 = some (.cells false false [.nil, .nil])
  b2 : h.bl 2 = some (.cells false false [pv, tv])
  b3 : h.bl 3 = some (.cells false false [v, w])
  ov : Own (e1 LI) 1 h v P
  ow : Own (e1 LI) 1 h w T
  d : Dis v w
theorem Own.keepX {α : Type} {f : α → List AV} {sz : Nat} {v x : AV} {xs : List α} {h h' : Hp} (o : Own f sz h v xs) (hn : h.nx ≤ h'.nx) (hb : ∀ i, i < h.nx → (∀ id off n sz', x = .sl id off n sz' → i ≠ id) → h'.bl i = h.bl i) (d : Dis x v) : Own f sz h' v xs := by
  rcases o with o | ⟨id, e, hi, hc⟩
  · exact .inl o
  · exact .inr ⟨id, e, by omega, (hb id hi fun id' off n sz' e' => (d _ _ _ _ _ _ _ _ e' e).symm).trans hc⟩
theorem TF.mono {pv tv v w x : AV} {P T : List (List Int)} {α : Type} {f : α → List AV} {sz : Nat} {xs : List α} (F : TF pv tv P T v w h) (hn : h.nx ≤ h'.nx) (ox : Own f sz h x xs) (hb : ∀ i, i < h.nx → (∀ id off n sz', x = .sl id off n sz' → i ≠ id) → h'.bl i = h.bl i) (dv : Dis x v) (dw : Dis x w) : TF pv tv P T v w h' :=
  ⟨Nat.le_trans F.nx hn, (hb 1 (by have := F.nx; omega) (own_ne ox F.b1)).trans F.b1, (hb 2 (by have := F.nx; omega) (own_ne ox F.b2)).trans F.b2, (hb 3 (by have := F.nx; omega) (own_ne ox F.b3)).trans F.b3, Own.keepX F.ov hn hb dv, Own.keepX F.ow hn hb dw, F.d⟩
theorem TF.alloc {pv tv v w : AV} {P T : List (List Int)} (F : TF pv tv P T v w h) (b : Blk) : TF pv tv P T v w (h.alloc b) :=
  F.mono (x := .nil) (f := e1 I) (sz := 1) (xs := []) (by simp [Hp.alloc]) (.inl ⟨rfl, rfl⟩) (fun i hi _ => by simp [Hp.alloc, show ¬ i = h.nx by omega]) (Dis.nil_l _) (Dis.nil_l _)

/-- The parents chosen so far: below 'v', ascending. -/
structure Asc (v : Int) (r : List Int) : Prop where
  len : r.length ≤ 3
  lo : ∀ j, j < r.length → 0 ≤ nth r j ∧ nth r j < v
  up : ∀ j, 0 < j → j < r.length → nth r (j - 1) < nth r j
theorem Asc.le {v v' : Int} {r : List Int} (a : Asc v r) (h : v ≤ v') : Asc v' r := ⟨a.len, fun j hj => ⟨(a.lo j hj).1, by have := (a.lo j hj).2; omega⟩, a.up⟩
theorem Asc.snoc {v : Int} {r : List Int} (a : Asc v r) (h0 : 0 ≤ v) (hl : r.length < 3) : Asc (v + 1) (r ++ [v]) := by
  have last : nth (r ++ [v]) r.length = v := by rw [nth, List.getElem?_append_right (Nat.le_refl _)]; simp
  refine ⟨by simp; omega, fun j hj => ?_, fun j h1 hj => ?_⟩
  · simp only [List.length_append, List.length_singleton] at hj
    rcases Nat.lt_or_ge j r.length with h | h
    · rw [nth_append_left _ _ _ h]; have := a.lo j h; omega
    · rw [show j = r.length by omega, last]; omega
  · simp only [List.length_append, List.length_singleton] at hj
    rw [nth_append_left _ _ _ (by omega)]
    rcases Nat.lt_or_ge j r.length with h | h
    · rw [nth_append_left _ _ _ h]; exact a.up j h1 h
    · rw [show j = r.length by omega, last]; exact (a.lo _ (by omega)).2
theorem Asc.ok {i : Nat} {r t : List Int} (a : Asc i r) (ht : t.length = 2 ^ r.length) (hb : ∀ j, j < t.length → 0 ≤ nth t j ∧ nth t j ≤ 16) : rowOK i r t = true := by
  simp only [rowOK, Bool.and_eq_true, decide_eq_true_eq, Bool.not_eq_true']
  refine ⟨⟨⟨a.len, ht⟩, all_range fun j hj => ?_⟩, ?_⟩
  · have h1 := a.lo j hj
    simp only [parB, Bool.and_eq_true, Bool.or_eq_true, beq_iff_eq, decide_eq_true_eq]
    refine ⟨by simp [inB]; omega, ?_⟩
    rcases Nat.eq_zero_or_pos j with h | h
    · exact .inl h
    · exact .inr (a.up j h hj)
  · rw [List.any_eq_false]
    intro x hx
    obtain ⟨j, hj, rfl⟩ := List.getElem_of_mem hx
    rw [← nth_getElem hj]
    have := hb j hj
    simp [inB]; omega

/-- What follows the first n parts. -/
def tailN : Nat → Code → Code
  | 0, c => c
  | n + 1, .seq _ b => tailN n b
  | _, c => c

/-- The first n parts, with something else behind them. -/
def withTail : Nat → Code → Code → Code
  | 0, _, T => T
  | n + 1, .seq a b, T => .seq a (withTail n b T)
  | _, c, _ => c

def TameR (m : Int) : AV → Prop := fun r => ∃ P T, netB P T = true ∧ (P.length : Int) ≤ m ∧ r = .agg [LLI P, LLI T]
theorem f30_tail (p t : List (List Int)) (pv tv : AV) (lpv : LV pv p) (ltv : LV tv t) (okp : okLL p) (okt : okLL t) (lp : p.length ≤ 12) (lt : t.length ≤ 12) (m : Int) (hm : 1 ≤ m ∧ m ≤ 10) (st : St) (h : Hp) (s1 : st 1 = I m) (s4 : st 4 = .ptr 1 0) (s5 : st 5 = .ptr 2 0)
    (hn : h.nx = 3) (b1 : h.bl 1 = some (.cells false false [.nil, .nil])) (b2 : h.bl 2 = some (.cells false false [pv, tv])) :
    WP Try.prog cfg (tailN 3 (Try.f30.body.getD .skip)) st h (fun x st h => ∃ r, RetK Try.prog (cfg.own 30) (cfg.keepNil 30) Try.f30.results.toList Try.f30.resultTypes.toList r x st h ∧ TameR m r) := by
  have ml : maxLen = 9223372036854775807 := by decide
  have klp := lpv.len
  have klt := ltv.len
  have kk := fun h h' K => k31 (h := h) (h' := h') (K := K) (p.length - 1) m (by omega)
  have hmo := modI_bounds ((p.length : Int) - 1) (n := m) (by omega)
  simp only [tailN, Try.f30, Option.getD_some]
  obtain ⟨k, hk⟩ : ∃ k : Nat, (k : Int) = 1 + modI ((p.length : Int) - 1) m := ⟨(1 + modI ((p.length : Int) - 1) m).toNat, by omega⟩
  have e3 : ∀ i, i ≠ 3 → True := fun _ _ => trivial
  simp (disch := first | (simp only [go_sem, Bool.and_self, eq_self]; done) | omega | (simp only [List.length_cons, List.length_nil]; omega)) only [go_sem, ↓reduceIte, Nat.reduceEqDiff, Nat.reduceAdd, Nat.reduceMul, Nat.reduceSub, Int.reduceToNat, Nat.reduceBEq, List.size_toArray, List.length_cons, List.length_nil, Bool.false_and, Bool.true_and, Bool.or_false, Bool.false_or, Bool.and_false, Bool.and_true, s1, s4, s5, hn, b1, b2, klp, klt, kk, ← hk]
  refine WP_cut (fun st h => st 4 = .ptr 1 0 ∧ st 5 = .ptr 2 0 ∧ st 6 = I k ∧ st 7 = .ptr 3 0 ∧ ∃ P T v w, TF pv tv P T v w h ∧ P.length = k ∧ T.length = k ∧ ∀ j, j < k → rowOK j (nth P j) (nth T j) = true) ?_ ?_
  · refine WP_for 8 k (fun i st h => st 4 = .ptr 1 0 ∧ st 5 = .ptr 2 0 ∧ st 6 = I k ∧ st 7 = .ptr 3 0 ∧ ∃ P T v w, TF pv tv P T v w h ∧ P.length = i ∧ T.length = i ∧ ∀ j, j < i → rowOK j (nth P j) (nth T j) = true) (by simp (disch := first | (simp only [go_sem, Bool.and_self, eq_self]; done) | omega | (simp only [List.length_cons, List.length_nil]; omega)) only [go_sem, ↓reduceIte, Nat.reduceEqDiff, Nat.reduceAdd, Nat.reduceMul, Nat.reduceSub, Int.reduceToNat, Nat.reduceBEq, List.size_toArray, List.length_cons, List.length_nil, Bool.false_and, Bool.true_and, Bool.or_false, Bool.false_or, Bool.and_false, Bool.and_true]) ⟨by simp (disch := first | (simp only [go_sem, Bool.and_self, eq_self]; done) | omega | (simp only [List.length_cons, List.length_nil]; omega)) only [go_sem, ↓reduceIte, Nat.reduceEqDiff, Nat.reduceAdd, Nat.reduceMul, Nat.reduceSub, Int.reduceToNat, Nat.reduceBEq, List.size_toArray, List.length_cons, List.length_nil, Bool.false_and, Bool.true_and, Bool.or_false, Bool.false_or, Bool.and_false, Bool.and_true, s4, s5], by simp (disch := first | (simp only [go_sem, Bool.and_self, eq_self]; done) | omega | (simp only [List.length_cons, List.length_nil]; omega)) only [go_sem, ↓reduceIte, Nat.reduceEqDiff, Nat.reduceAdd, Nat.reduceMul, Nat.reduceSub, Int.reduceToNat, Nat.reduceBEq, List.size_toArray, List.length_cons, List.length_nil, Bool.false_and, Bool.true_and, Bool.or_false, Bool.false_or, Bool.and_false, Bool.and_true, s4, s5], by simp (disch := first | (simp only [go_sem, Bool.and_self, eq_self]; done) | omega | (simp only [List.length_cons, List.length_nil]; omega)) only [go_sem, ↓reduceIte, Nat.reduceEqDiff, Nat.reduceAdd, Nat.reduceMul, Nat.reduceSub, Int.reduceToNat, Nat.reduceBEq, List.size_toArray, List.length_cons, List.length_nil, Bool.false_and, Bool.true_and, Bool.or_false, Bool.false_or, Bool.and_false, Bool.and_true, s4, s5], by simp (disch := first | (simp only [go_sem, Bool.and_self, eq_self]; done) | omega | (simp only [List.length_cons, List.length_nil]; omega)) only [go_sem, ↓reduceIte, Nat.reduceEqDiff, Nat.reduceAdd, Nat.reduceMul, Nat.reduceSub, Int.reduceToNat, Nat.reduceBEq, List.size_toArray, List.length_cons, List.length_nil, Bool.false_and, Bool.true_and, Bool.or_false, Bool.false_or, Bool.and_false, Bool.and_true, s4, s5], [], [], .nil, .nil, ⟨?_, ?_, ?_, ?_, .inl ⟨rfl, rfl⟩, .inl ⟨rfl, rfl⟩, Dis.nil_l _⟩, rfl, rfl, by omega⟩ ?_
    · simp (disch := first | (simp only [go_sem, Bool.and_self, eq_self]; done) | omega | (simp only [List.length_cons, List.length_nil]; omega)) only [go_sem, ↓reduceIte, Nat.reduceEqDiff, Nat.reduceAdd, Nat.reduceMul, Nat.reduceSub, Int.reduceToNat, Nat.reduceBEq, List.size_toArray, List.length_cons, List.length_nil, Bool.false_and, Bool.true_and, Bool.or_false, Bool.false_or, Bool.and_false, Bool.and_true, hn]; omega
    · simp (disch := first | (simp only [go_sem, Bool.and_self, eq_self]; done) | omega | (simp only [List.length_cons, List.length_nil]; omega)) only [go_sem, ↓reduceIte, Nat.reduceEqDiff, Nat.reduceAdd, Nat.reduceMul, Nat.reduceSub, Int.reduceToNat, Nat.reduceBEq, List.size_toArray, List.length_cons, List.length_nil, Bool.false_and, Bool.true_and, Bool.or_false, Bool.false_or, Bool.and_false, Bool.and_true, hn, b1]
    · simp (disch := first | (simp only [go_sem, Bool.and_self, eq_self]; done) | omega | (simp only [List.length_cons, List.length_nil]; omega)) only [go_sem, ↓reduceIte, Nat.reduceEqDiff, Nat.reduceAdd, Nat.reduceMul, Nat.reduceSub, Int.reduceToNat, Nat.reduceBEq, List.size_toArray, List.length_cons, List.length_nil, Bool.false_and, Bool.true_and, Bool.or_false, Bool.false_or, Bool.and_false, Bool.and_true, hn, b2]
    · simp (disch := first | (simp only [go_sem, Bool.and_self, eq_self]; done) | omega | (simp only [List.length_cons, List.length_nil]; omega)) only [go_sem, ↓reduceIte, Nat.reduceEqDiff, Nat.reduceAdd, Nat.reduceMul, Nat.reduceSub, Int.reduceToNat, Nat.reduceBEq, List.size_toArray, List.length_cons, List.length_nil, Bool.false_and, Bool.true_and, Bool.or_false, Bool.false_or, Bool.and_false, Bool.and_true, hn]
    rintro i st h hi s8 ⟨s4, s5, s6, s7, P, T, v, w, F, hPl, hTl, hok⟩
    by_cases hlt : i < k
    case neg =>
      have hik : k = i := by omega
      subst hik
      simp (disch := first | (simp only [go_sem, Bool.and_self, eq_self]; done) | omega | (simp only [List.length_cons, List.length_nil]; omega)) only [go_sem, ↓reduceIte, Nat.reduceEqDiff, Nat.reduceAdd, Nat.reduceMul, Nat.reduceSub, Int.reduceToNat, Nat.reduceBEq, List.size_toArray, List.length_cons, List.length_nil, Bool.false_and, Bool.true_and, Bool.or_false, Bool.false_or, Bool.and_false, Bool.and_true, s4, s5, s6, s7, s8, hlt]
      exact ⟨P, T, v, w, F, hPl, hTl, hok⟩
    simp (disch := first | (simp only [go_sem, Bool.and_self, eq_self]; done) | omega | (simp only [List.length_cons, List.length_nil]; omega)) only [go_sem, ↓reduceIte, Nat.reduceEqDiff, Nat.reduceAdd, Nat.reduceMul, Nat.reduceSub, Int.reduceToNat, Nat.reduceBEq, List.size_toArray, List.length_cons, List.length_nil, Bool.false_and, Bool.true_and, Bool.or_false, Bool.false_or, Bool.and_false, Bool.and_true, s4, s5, s6, s7, s8, hlt]
    refine WP_cut (fun st h => st 4 = .ptr 1 0 ∧ st 5 = .ptr 2 0 ∧ st 6 = I k ∧ st 7 = .ptr 3 0 ∧ st 8 = I i ∧ TF pv tv P T v w h ∧ ∃ x rr, st 9 = x ∧ Own (e1 I) 1 h x rr ∧ Asc i rr ∧ Dis x v ∧ Dis x w) ?_ ?_
    · refine WP_for 10 i (fun c st h => st 4 = .ptr 1 0 ∧ st 5 = .ptr 2 0 ∧ st 6 = I k ∧ st 7 = .ptr 3 0 ∧ st 8 = I i ∧ TF pv tv P T v w h ∧ ∃ x rr, st 9 = x ∧ Own (e1 I) 1 h x rr ∧ Asc c rr ∧ Dis x v ∧ Dis x w) (by simp (disch := first | (simp only [go_sem, Bool.and_self, eq_self]; done) | omega | (simp only [List.length_cons, List.length_nil]; omega)) only [go_sem, ↓reduceIte, Nat.reduceEqDiff, Nat.reduceAdd, Nat.reduceMul, Nat.reduceSub, Int.reduceToNat, Nat.reduceBEq, List.size_toArray, List.length_cons, List.length_nil, Bool.false_and, Bool.true_and, Bool.or_false, Bool.false_or, Bool.and_false, Bool.and_true]) ⟨by simp (disch := first | (simp only [go_sem, Bool.and_self, eq_self]; done) | omega | (simp only [List.length_cons, List.length_nil]; omega)) only [go_sem, ↓reduceIte, Nat.reduceEqDiff, Nat.reduceAdd, Nat.reduceMul, Nat.reduceSub, Int.reduceToNat, Nat.reduceBEq, List.size_toArray, List.length_cons, List.length_nil, Bool.false_and, Bool.true_and, Bool.or_false, Bool.false_or, Bool.and_false, Bool.and_true, s4, s5, s6, s7, s8], by simp (disch := first | (simp only [go_sem, Bool.and_self, eq_self]; done) | omega | (simp only [List.length_cons, List.length_nil]; omega)) only [go_sem, ↓reduceIte, Nat.reduceEqDiff, Nat.reduceAdd, Nat.reduceMul, Nat.reduceSub, Int.reduceToNat, Nat.reduceBEq, List.size_toArray, List.length_cons, List.length_nil, Bool.false_and, Bool.true_and, Bool.or_false, Bool.false_or, Bool.and_false, Bool.and_true, s4, s5, s6, s7, s8], by simp (disch := first | (simp only [go_sem, Bool.and_self, eq_self]; done) | omega | (simp only [List.length_cons, List.length_nil]; omega)) only [go_sem, ↓reduceIte, Nat.reduceEqDiff, Nat.reduceAdd, Nat.reduceMul, Nat.reduceSub, Int.reduceToNat, Nat.reduceBEq, List.size_toArray, List.length_cons, List.length_nil, Bool.false_and, Bool.true_and, Bool.or_false, Bool.false_or, Bool.and_false, Bool.and_true, s4, s5, s6, s7, s8], by simp (disch := first | (simp only [go_sem, Bool.and_self, eq_self]; done) | omega | (simp only [List.length_cons, List.length_nil]; omega)) only [go_sem, ↓reduceIte, Nat.reduceEqDiff, Nat.reduceAdd, Nat.reduceMul, Nat.reduceSub, Int.reduceToNat, Nat.reduceBEq, List.size_toArray, List.length_cons, List.length_nil, Bool.false_and, Bool.true_and, Bool.or_false, Bool.false_or, Bool.and_false, Bool.and_true, s4, s5, s6, s7, s8], by simp (disch := first | (simp only [go_sem, Bool.and_self, eq_self]; done) | omega | (simp only [List.length_cons, List.length_nil]; omega)) only [go_sem, ↓reduceIte, Nat.reduceEqDiff, Nat.reduceAdd, Nat.reduceMul, Nat.reduceSub, Int.reduceToNat, Nat.reduceBEq, List.size_toArray, List.length_cons, List.length_nil, Bool.false_and, Bool.true_and, Bool.or_false, Bool.false_or, Bool.and_false, Bool.and_true, s4, s5, s6, s7, s8], F, .nil, [], by simp (disch := first | (simp only [go_sem, Bool.and_self, eq_self]; done) | omega | (simp only [List.length_cons, List.length_nil]; omega)) only [go_sem, ↓reduceIte, Nat.reduceEqDiff, Nat.reduceAdd, Nat.reduceMul, Nat.reduceSub, Int.reduceToNat, Nat.reduceBEq, List.size_toArray, List.length_cons, List.length_nil, Bool.false_and, Bool.true_and, Bool.or_false, Bool.false_or, Bool.and_false, Bool.and_true], .inl ⟨rfl, rfl⟩, ⟨by simp, by simp, by simp⟩, Dis.nil_l _, Dis.nil_l _⟩ ?_
      rintro c st h hc s10 ⟨s4, s5, s6, s7, s8, F, x, rr, s9, ox, ar, dv, dw⟩
      by_cases hci : c < i
      case neg =>
        simp (disch := first | (simp only [go_sem, Bool.and_self, eq_self]; done) | omega | (simp only [List.length_cons, List.length_nil]; omega)) only [go_sem, ↓reduceIte, Nat.reduceEqDiff, Nat.reduceAdd, Nat.reduceMul, Nat.reduceSub, Int.reduceToNat, Nat.reduceBEq, List.size_toArray, List.length_cons, List.length_nil, Bool.false_and, Bool.true_and, Bool.or_false, Bool.false_or, Bool.and_false, Bool.and_true, s4, s5, s6, s7, s8, s10, hci]
        exact ⟨F, x, rr, s9, ox, ar.le (by omega), dv, dw⟩
      have b2 := F.b2
      by_cases hip : i < p.length
      case neg =>
        simp (disch := first | (simp only [go_sem, Bool.and_self, eq_self]; done) | omega | (simp only [List.length_cons, List.length_nil]; omega)) only [go_sem, ↓reduceIte, Nat.reduceEqDiff, Nat.reduceAdd, Nat.reduceMul, Nat.reduceSub, Int.reduceToNat, Nat.reduceBEq, List.size_toArray, List.length_cons, List.length_nil, Bool.false_and, Bool.true_and, Bool.or_false, Bool.false_or, Bool.and_false, Bool.and_true, s4, s5, s6, s7, s8, s10, hci, b2, klp, hip]
        exact ⟨F, x, rr, s9, ox, ar.le (by omega), dv, dw⟩
      have hpe := lpv.some hip
      rw [hpe] at b2
      have hxc := own_cell ox
      simp (disch := first | (simp only [go_sem, Bool.and_self, eq_self]; done) | omega | (simp only [List.length_cons, List.length_nil]; omega)) only [go_sem, ↓reduceIte, Nat.reduceEqDiff, Nat.reduceAdd, Nat.reduceMul, Nat.reduceSub, Int.reduceToNat, Nat.reduceBEq, List.size_toArray, List.length_cons, List.length_nil, Bool.false_and, Bool.true_and, Bool.or_false, Bool.false_or, Bool.and_false, Bool.and_true, s4, s5, s6, s7, s8, s10, hci, b2, hip]
      refine WP_cut (fun st h' => st 4 = .ptr 1 0 ∧ st 5 = .ptr 2 0 ∧ st 6 = I k ∧ st 7 = .ptr 3 0 ∧ st 8 = I i ∧ st 10 = I c ∧ st 9 = x ∧ h' = h ∧ ∃ b, st 11 = .bool b) ?_ ?_
      · refine WP_for 12 (nth p i).length (fun j st h' => st 4 = .ptr 1 0 ∧ st 5 = .ptr 2 0 ∧ st 6 = I k ∧ st 7 = .ptr 3 0 ∧ st 8 = I i ∧ st 10 = I c ∧ st 9 = x ∧ h' = h ∧ ∃ b, st 11 = .bool b) (by simp (disch := first | (simp only [go_sem, Bool.and_self, eq_self]; done) | omega | (simp only [List.length_cons, List.length_nil]; omega)) only [go_sem, ↓reduceIte, Nat.reduceEqDiff, Nat.reduceAdd, Nat.reduceMul, Nat.reduceSub, Int.reduceToNat, Nat.reduceBEq, List.size_toArray, List.length_cons, List.length_nil, Bool.false_and, Bool.true_and, Bool.or_false, Bool.false_or, Bool.and_false, Bool.and_true]) ⟨by simp (disch := first | (simp only [go_sem, Bool.and_self, eq_self]; done) | omega | (simp only [List.length_cons, List.length_nil]; omega)) only [go_sem, ↓reduceIte, Nat.reduceEqDiff, Nat.reduceAdd, Nat.reduceMul, Nat.reduceSub, Int.reduceToNat, Nat.reduceBEq, List.size_toArray, List.length_cons, List.length_nil, Bool.false_and, Bool.true_and, Bool.or_false, Bool.false_or, Bool.and_false, Bool.and_true, s4, s5, s6, s7, s8], by simp (disch := first | (simp only [go_sem, Bool.and_self, eq_self]; done) | omega | (simp only [List.length_cons, List.length_nil]; omega)) only [go_sem, ↓reduceIte, Nat.reduceEqDiff, Nat.reduceAdd, Nat.reduceMul, Nat.reduceSub, Int.reduceToNat, Nat.reduceBEq, List.size_toArray, List.length_cons, List.length_nil, Bool.false_and, Bool.true_and, Bool.or_false, Bool.false_or, Bool.and_false, Bool.and_true, s4, s5, s6, s7, s8], by simp (disch := first | (simp only [go_sem, Bool.and_self, eq_self]; done) | omega | (simp only [List.length_cons, List.length_nil]; omega)) only [go_sem, ↓reduceIte, Nat.reduceEqDiff, Nat.reduceAdd, Nat.reduceMul, Nat.reduceSub, Int.reduceToNat, Nat.reduceBEq, List.size_toArray, List.length_cons, List.length_nil, Bool.false_and, Bool.true_and, Bool.or_false, Bool.false_or, Bool.and_false, Bool.and_true, s4, s5, s6, s7, s8], by simp (disch := first | (simp only [go_sem, Bool.and_self, eq_self]; done) | omega | (simp only [List.length_cons, List.length_nil]; omega)) only [go_sem, ↓reduceIte, Nat.reduceEqDiff, Nat.reduceAdd, Nat.reduceMul, Nat.reduceSub, Int.reduceToNat, Nat.reduceBEq, List.size_toArray, List.length_cons, List.length_nil, Bool.false_and, Bool.true_and, Bool.or_false, Bool.false_or, Bool.and_false, Bool.and_true, s4, s5, s6, s7, s8], by simp (disch := first | (simp only [go_sem, Bool.and_self, eq_self]; done) | omega | (simp only [List.length_cons, List.length_nil]; omega)) only [go_sem, ↓reduceIte, Nat.reduceEqDiff, Nat.reduceAdd, Nat.reduceMul, Nat.reduceSub, Int.reduceToNat, Nat.reduceBEq, List.size_toArray, List.length_cons, List.length_nil, Bool.false_and, Bool.true_and, Bool.or_false, Bool.false_or, Bool.and_false, Bool.and_true, s4, s5, s6, s7, s8], by simp (disch := first | (simp only [go_sem, Bool.and_self, eq_self]; done) | omega | (simp only [List.length_cons, List.length_nil]; omega)) only [go_sem, ↓reduceIte, Nat.reduceEqDiff, Nat.reduceAdd, Nat.reduceMul, Nat.reduceSub, Int.reduceToNat, Nat.reduceBEq, List.size_toArray, List.length_cons, List.length_nil, Bool.false_and, Bool.true_and, Bool.or_false, Bool.false_or, Bool.and_false, Bool.and_true, s10], by simp (disch := first | (simp only [go_sem, Bool.and_self, eq_self]; done) | omega | (simp only [List.length_cons, List.length_nil]; omega)) only [go_sem, ↓reduceIte, Nat.reduceEqDiff, Nat.reduceAdd, Nat.reduceMul, Nat.reduceSub, Int.reduceToNat, Nat.reduceBEq, List.size_toArray, List.length_cons, List.length_nil, Bool.false_and, Bool.true_and, Bool.or_false, Bool.false_or, Bool.and_false, Bool.and_true, s9], rfl, false, by simp (disch := first | (simp only [go_sem, Bool.and_self, eq_self]; done) | omega | (simp only [List.length_cons, List.length_nil]; omega)) only [go_sem, ↓reduceIte, Nat.reduceEqDiff, Nat.reduceAdd, Nat.reduceMul, Nat.reduceSub, Int.reduceToNat, Nat.reduceBEq, List.size_toArray, List.length_cons, List.length_nil, Bool.false_and, Bool.true_and, Bool.or_false, Bool.false_or, Bool.and_false, Bool.and_true]⟩ ?_
        rintro j st h' hj s12 ⟨s4, s5, s6, s7, s8, s10, s9, rfl, b, s11⟩
        have hml := okp.2 _ (nth_mem hip)
        by_cases hjl : j < (nth p i).length
        case neg =>
          simp (disch := first | (simp only [go_sem, Bool.and_self, eq_self]; done) | omega | (simp only [List.length_cons, List.length_nil]; omega)) only [go_sem, ↓reduceIte, Nat.reduceEqDiff, Nat.reduceAdd, Nat.reduceMul, Nat.reduceSub, Int.reduceToNat, Nat.reduceBEq, List.size_toArray, List.length_cons, List.length_nil, Bool.false_and, Bool.true_and, Bool.or_false, Bool.false_or, Bool.and_false, Bool.and_true, s4, s5, s6, s7, s8, s10, s12, b2, hip, hjl]
          exact ⟨s9, b, s11⟩
        have k2 := fun h h'' K => k31 (h := h) (h' := h'') (K := K) (nth (nth p i) j) i (by omega)
        cases b with
        | true =>
          simp (disch := first | (simp only [go_sem, Bool.and_self, eq_self]; done) | omega | (simp only [List.length_cons, List.length_nil]; omega)) only [go_sem, ↓reduceIte, Nat.reduceEqDiff, Nat.reduceAdd, Nat.reduceMul, Nat.reduceSub, Int.reduceToNat, Nat.reduceBEq, List.size_toArray, List.length_cons, List.length_nil, Bool.false_and, Bool.true_and, Bool.or_false, Bool.false_or, Bool.and_false, Bool.and_true, s4, s5, s6, s7, s8, s10, s11, s12, b2, hip, hjl]
          rw [ForK_normal]
          exact ⟨hjl, by simp (disch := first | (simp only [go_sem, Bool.and_self, eq_self]; done) | omega | (simp only [List.length_cons, List.length_nil]; omega)) only [go_sem, ↓reduceIte, Nat.reduceEqDiff, Nat.reduceAdd, Nat.reduceMul, Nat.reduceSub, Int.reduceToNat, Nat.reduceBEq, List.size_toArray, List.length_cons, List.length_nil, Bool.false_and, Bool.true_and, Bool.or_false, Bool.false_or, Bool.and_false, Bool.and_true, s12], by simp (disch := first | (simp only [go_sem, Bool.and_self, eq_self]; done) | omega | (simp only [List.length_cons, List.length_nil]; omega)) only [go_sem, ↓reduceIte, Nat.reduceEqDiff, Nat.reduceAdd, Nat.reduceMul, Nat.reduceSub, Int.reduceToNat, Nat.reduceBEq, List.size_toArray, List.length_cons, List.length_nil, Bool.false_and, Bool.true_and, Bool.or_false, Bool.false_or, Bool.and_false, Bool.and_true, s4], by simp (disch := first | (simp only [go_sem, Bool.and_self, eq_self]; done) | omega | (simp only [List.length_cons, List.length_nil]; omega)) only [go_sem, ↓reduceIte, Nat.reduceEqDiff, Nat.reduceAdd, Nat.reduceMul, Nat.reduceSub, Int.reduceToNat, Nat.reduceBEq, List.size_toArray, List.length_cons, List.length_nil, Bool.false_and, Bool.true_and, Bool.or_false, Bool.false_or, Bool.and_false, Bool.and_true, s5], by simp (disch := first | (simp only [go_sem, Bool.and_self, eq_self]; done) | omega | (simp only [List.length_cons, List.length_nil]; omega)) only [go_sem, ↓reduceIte, Nat.reduceEqDiff, Nat.reduceAdd, Nat.reduceMul, Nat.reduceSub, Int.reduceToNat, Nat.reduceBEq, List.size_toArray, List.length_cons, List.length_nil, Bool.false_and, Bool.true_and, Bool.or_false, Bool.false_or, Bool.and_false, Bool.and_true, s6], by simp (disch := first | (simp only [go_sem, Bool.and_self, eq_self]; done) | omega | (simp only [List.length_cons, List.length_nil]; omega)) only [go_sem, ↓reduceIte, Nat.reduceEqDiff, Nat.reduceAdd, Nat.reduceMul, Nat.reduceSub, Int.reduceToNat, Nat.reduceBEq, List.size_toArray, List.length_cons, List.length_nil, Bool.false_and, Bool.true_and, Bool.or_false, Bool.false_or, Bool.and_false, Bool.and_true, s7], by simp (disch := first | (simp only [go_sem, Bool.and_self, eq_self]; done) | omega | (simp only [List.length_cons, List.length_nil]; omega)) only [go_sem, ↓reduceIte, Nat.reduceEqDiff, Nat.reduceAdd, Nat.reduceMul, Nat.reduceSub, Int.reduceToNat, Nat.reduceBEq, List.size_toArray, List.length_cons, List.length_nil, Bool.false_and, Bool.true_and, Bool.or_false, Bool.false_or, Bool.and_false, Bool.and_true, s8], by simp (disch := first | (simp only [go_sem, Bool.and_self, eq_self]; done) | omega | (simp only [List.length_cons, List.length_nil]; omega)) only [go_sem, ↓reduceIte, Nat.reduceEqDiff, Nat.reduceAdd, Nat.reduceMul, Nat.reduceSub, Int.reduceToNat, Nat.reduceBEq, List.size_toArray, List.length_cons, List.length_nil, Bool.false_and, Bool.true_and, Bool.or_false, Bool.false_or, Bool.and_false, Bool.and_true, s10], by simp (disch := first | (simp only [go_sem, Bool.and_self, eq_self]; done) | omega | (simp only [List.length_cons, List.length_nil]; omega)) only [go_sem, ↓reduceIte, Nat.reduceEqDiff, Nat.reduceAdd, Nat.reduceMul, Nat.reduceSub, Int.reduceToNat, Nat.reduceBEq, List.size_toArray, List.length_cons, List.length_nil, Bool.false_and, Bool.true_and, Bool.or_false, Bool.false_or, Bool.and_false, Bool.and_true, s9], rfl, true, by simp (disch := first | (simp only [go_sem, Bool.and_self, eq_self]; done) | omega | (simp only [List.length_cons, List.length_nil]; omega)) only [go_sem, ↓reduceIte, Nat.reduceEqDiff, Nat.reduceAdd, Nat.reduceMul, Nat.reduceSub, Int.reduceToNat, Nat.reduceBEq, List.size_toArray, List.length_cons, List.length_nil, Bool.false_and, Bool.true_and, Bool.or_false, Bool.false_or, Bool.and_false, Bool.and_true]⟩
        | false =>
          simp (disch := first | (simp only [go_sem, Bool.and_self, eq_self]; done) | omega | (simp only [List.length_cons, List.length_nil]; omega)) only [go_sem, ↓reduceIte, Nat.reduceEqDiff, Nat.reduceAdd, Nat.reduceMul, Nat.reduceSub, Int.reduceToNat, Nat.reduceBEq, List.size_toArray, List.length_cons, List.length_nil, Bool.false_and, Bool.true_and, Bool.or_false, Bool.false_or, Bool.and_false, Bool.and_true, s4, s5, s6, s7, s8, s10, s11, s12, b2, hip, hjl, k2]
          rw [ForK_normal]
          exact ⟨hjl, by simp (disch := first | (simp only [go_sem, Bool.and_self, eq_self]; done) | omega | (simp only [List.length_cons, List.length_nil]; omega)) only [go_sem, ↓reduceIte, Nat.reduceEqDiff, Nat.reduceAdd, Nat.reduceMul, Nat.reduceSub, Int.reduceToNat, Nat.reduceBEq, List.size_toArray, List.length_cons, List.length_nil, Bool.false_and, Bool.true_and, Bool.or_false, Bool.false_or, Bool.and_false, Bool.and_true, s12], by simp (disch := first | (simp only [go_sem, Bool.and_self, eq_self]; done) | omega | (simp only [List.length_cons, List.length_nil]; omega)) only [go_sem, ↓reduceIte, Nat.reduceEqDiff, Nat.reduceAdd, Nat.reduceMul, Nat.reduceSub, Int.reduceToNat, Nat.reduceBEq, List.size_toArray, List.length_cons, List.length_nil, Bool.false_and, Bool.true_and, Bool.or_false, Bool.false_or, Bool.and_false, Bool.and_true, s4], by simp (disch := first | (simp only [go_sem, Bool.and_self, eq_self]; done) | omega | (simp only [List.length_cons, List.length_nil]; omega)) only [go_sem, ↓reduceIte, Nat.reduceEqDiff, Nat.reduceAdd, Nat.reduceMul, Nat.reduceSub, Int.reduceToNat, Nat.reduceBEq, List.size_toArray, List.length_cons, List.length_nil, Bool.false_and, Bool.true_and, Bool.or_false, Bool.false_or, Bool.and_false, Bool.and_true, s5], by simp (disch := first | (simp only [go_sem, Bool.and_self, eq_self]; done) | omega | (simp only [List.length_cons, List.length_nil]; omega)) only [go_sem, ↓reduceIte, Nat.reduceEqDiff, Nat.reduceAdd, Nat.reduceMul, Nat.reduceSub, Int.reduceToNat, Nat.reduceBEq, List.size_toArray, List.length_cons, List.length_nil, Bool.false_and, Bool.true_and, Bool.or_false, Bool.false_or, Bool.and_false, Bool.and_true, s6], by simp (disch := first | (simp only [go_sem, Bool.and_self, eq_self]; done) | omega | (simp only [List.length_cons, List.length_nil]; omega)) only [go_sem, ↓reduceIte, Nat.reduceEqDiff, Nat.reduceAdd, Nat.reduceMul, Nat.reduceSub, Int.reduceToNat, Nat.reduceBEq, List.size_toArray, List.length_cons, List.length_nil, Bool.false_and, Bool.true_and, Bool.or_false, Bool.false_or, Bool.and_false, Bool.and_true, s7], by simp (disch := first | (simp only [go_sem, Bool.and_self, eq_self]; done) | omega | (simp only [List.length_cons, List.length_nil]; omega)) only [go_sem, ↓reduceIte, Nat.reduceEqDiff, Nat.reduceAdd, Nat.reduceMul, Nat.reduceSub, Int.reduceToNat, Nat.reduceBEq, List.size_toArray, List.length_cons, List.length_nil, Bool.false_and, Bool.true_and, Bool.or_false, Bool.false_or, Bool.and_false, Bool.and_true, s8], by simp (disch := first | (simp only [go_sem, Bool.and_self, eq_self]; done) | omega | (simp only [List.length_cons, List.length_nil]; omega)) only [go_sem, ↓reduceIte, Nat.reduceEqDiff, Nat.reduceAdd, Nat.reduceMul, Nat.reduceSub, Int.reduceToNat, Nat.reduceBEq, List.size_toArray, List.length_cons, List.length_nil, Bool.false_and, Bool.true_and, Bool.or_false, Bool.false_or, Bool.and_false, Bool.and_true, s10], by simp (disch := first | (simp only [go_sem, Bool.and_self, eq_self]; done) | omega | (simp only [List.length_cons, List.length_nil]; omega)) only [go_sem, ↓reduceIte, Nat.reduceEqDiff, Nat.reduceAdd, Nat.reduceMul, Nat.reduceSub, Int.reduceToNat, Nat.reduceBEq, List.size_toArray, List.length_cons, List.length_nil, Bool.false_and, Bool.true_and, Bool.or_false, Bool.false_or, Bool.and_false, Bool.and_true, s9], rfl, decide (modI (nth (nth p i) j) i = c), by simp (disch := first | (simp only [go_sem, Bool.and_self, eq_self]; done) | omega | (simp only [List.length_cons, List.length_nil]; omega)) only [go_sem, ↓reduceIte, Nat.reduceEqDiff, Nat.reduceAdd, Nat.reduceMul, Nat.reduceSub, Int.reduceToNat, Nat.reduceBEq, List.size_toArray, List.length_cons, List.length_nil, Bool.false_and, Bool.true_and, Bool.or_false, Bool.false_or, Bool.and_false, Bool.and_true]⟩
      rintro st h' ⟨s4, s5, s6, s7, s8, s10, s9, rfl, b, s11⟩
      have klen := fun lim => ox.lenB (e := 3) h' lim
      cases b with
      | false =>
        simp (disch := first | (simp only [go_sem, Bool.and_self, eq_self]; done) | omega | (simp only [List.length_cons, List.length_nil]; omega)) only [go_sem, ↓reduceIte, Nat.reduceEqDiff, Nat.reduceAdd, Nat.reduceMul, Nat.reduceSub, Int.reduceToNat, Nat.reduceBEq, List.size_toArray, List.length_cons, List.length_nil, Bool.false_and, Bool.true_and, Bool.or_false, Bool.false_or, Bool.and_false, Bool.and_true, s4, s5, s6, s7, s8, s10, s11]
        rw [ForK_normal]
        exact ⟨by omega, by simp (disch := first | (simp only [go_sem, Bool.and_self, eq_self]; done) | omega | (simp only [List.length_cons, List.length_nil]; omega)) only [go_sem, ↓reduceIte, Nat.reduceEqDiff, Nat.reduceAdd, Nat.reduceMul, Nat.reduceSub, Int.reduceToNat, Nat.reduceBEq, List.size_toArray, List.length_cons, List.length_nil, Bool.false_and, Bool.true_and, Bool.or_false, Bool.false_or, Bool.and_false, Bool.and_true, s10], by simp (disch := first | (simp only [go_sem, Bool.and_self, eq_self]; done) | omega | (simp only [List.length_cons, List.length_nil]; omega)) only [go_sem, ↓reduceIte, Nat.reduceEqDiff, Nat.reduceAdd, Nat.reduceMul, Nat.reduceSub, Int.reduceToNat, Nat.reduceBEq, List.size_toArray, List.length_cons, List.length_nil, Bool.false_and, Bool.true_and, Bool.or_false, Bool.false_or, Bool.and_false, Bool.and_true, s4], by simp (disch := first | (simp only [go_sem, Bool.and_self, eq_self]; done) | omega | (simp only [List.length_cons, List.length_nil]; omega)) only [go_sem, ↓reduceIte, Nat.reduceEqDiff, Nat.reduceAdd, Nat.reduceMul, Nat.reduceSub, Int.reduceToNat, Nat.reduceBEq, List.size_toArray, List.length_cons, List.length_nil, Bool.false_and, Bool.true_and, Bool.or_false, Bool.false_or, Bool.and_false, Bool.and_true, s5], by simp (disch := first | (simp only [go_sem, Bool.and_self, eq_self]; done) | omega | (simp only [List.length_cons, List.length_nil]; omega)) only [go_sem, ↓reduceIte, Nat.reduceEqDiff, Nat.reduceAdd, Nat.reduceMul, Nat.reduceSub, Int.reduceToNat, Nat.reduceBEq, List.size_toArray, List.length_cons, List.length_nil, Bool.false_and, Bool.true_and, Bool.or_false, Bool.false_or, Bool.and_false, Bool.and_true, s6], by simp (disch := first | (simp only [go_sem, Bool.and_self, eq_self]; done) | omega | (simp only [List.length_cons, List.length_nil]; omega)) only [go_sem, ↓reduceIte, Nat.reduceEqDiff, Nat.reduceAdd, Nat.reduceMul, Nat.reduceSub, Int.reduceToNat, Nat.reduceBEq, List.size_toArray, List.length_cons, List.length_nil, Bool.false_and, Bool.true_and, Bool.or_false, Bool.false_or, Bool.and_false, Bool.and_true, s7], by simp (disch := first | (simp only [go_sem, Bool.and_self, eq_self]; done) | omega | (simp only [List.length_cons, List.length_nil]; omega)) only [go_sem, ↓reduceIte, Nat.reduceEqDiff, Nat.reduceAdd, Nat.reduceMul, Nat.reduceSub, Int.reduceToNat, Nat.reduceBEq, List.size_toArray, List.length_cons, List.length_nil, Bool.false_and, Bool.true_and, Bool.or_false, Bool.false_or, Bool.and_false, Bool.and_true, s8], F, x, rr, by simp (disch := first | (simp only [go_sem, Bool.and_self, eq_self]; done) | omega | (simp only [List.length_cons, List.length_nil]; omega)) only [go_sem, ↓reduceIte, Nat.reduceEqDiff, Nat.reduceAdd, Nat.reduceMul, Nat.reduceSub, Int.reduceToNat, Nat.reduceBEq, List.size_toArray, List.length_cons, List.length_nil, Bool.false_and, Bool.true_and, Bool.or_false, Bool.false_or, Bool.and_false, Bool.and_true, s9], ox, ar.le (by omega), dv, dw⟩
      | true =>
      by_cases hr3 : rr.length < 3
      case neg =>
        have hr3' : ¬ (rr.length : Int) < 3 := by omega
        simp (disch := first | (simp only [go_sem, Bool.and_self, eq_self]; done) | omega | (simp only [List.length_cons, List.length_nil]; omega)) only [go_sem, ↓reduceIte, Nat.reduceEqDiff, Nat.reduceAdd, Nat.reduceMul, Nat.reduceSub, Int.reduceToNat, Nat.reduceBEq, List.size_toArray, List.length_cons, List.length_nil, Bool.false_and, Bool.true_and, Bool.or_false, Bool.false_or, Bool.and_false, Bool.and_true, s4, s5, s6, s7, s8, s9, s10, s11, klen, hr3']
        rw [ForK_normal]
        exact ⟨by omega, by simp (disch := first | (simp only [go_sem, Bool.and_self, eq_self]; done) | omega | (simp only [List.length_cons, List.length_nil]; omega)) only [go_sem, ↓reduceIte, Nat.reduceEqDiff, Nat.reduceAdd, Nat.reduceMul, Nat.reduceSub, Int.reduceToNat, Nat.reduceBEq, List.size_toArray, List.length_cons, List.length_nil, Bool.false_and, Bool.true_and, Bool.or_false, Bool.false_or, Bool.and_false, Bool.and_true, s10], by simp (disch := first | (simp only [go_sem, Bool.and_self, eq_self]; done) | omega | (simp only [List.length_cons, List.length_nil]; omega)) only [go_sem, ↓reduceIte, Nat.reduceEqDiff, Nat.reduceAdd, Nat.reduceMul, Nat.reduceSub, Int.reduceToNat, Nat.reduceBEq, List.size_toArray, List.length_cons, List.length_nil, Bool.false_and, Bool.true_and, Bool.or_false, Bool.false_or, Bool.and_false, Bool.and_true, s4], by simp (disch := first | (simp only [go_sem, Bool.and_self, eq_self]; done) | omega | (simp only [List.length_cons, List.length_nil]; omega)) only [go_sem, ↓reduceIte, Nat.reduceEqDiff, Nat.reduceAdd, Nat.reduceMul, Nat.reduceSub, Int.reduceToNat, Nat.reduceBEq, List.size_toArray, List.length_cons, List.length_nil, Bool.false_and, Bool.true_and, Bool.or_false, Bool.false_or, Bool.and_false, Bool.and_true, s5], by simp (disch := first | (simp only [go_sem, Bool.and_self, eq_self]; done) | omega | (simp only [List.length_cons, List.length_nil]; omega)) only [go_sem, ↓reduceIte, Nat.reduceEqDiff, Nat.reduceAdd, Nat.reduceMul, Nat.reduceSub, Int.reduceToNat, Nat.reduceBEq, List.size_toArray, List.length_cons, List.length_nil, Bool.false_and, Bool.true_and, Bool.or_false, Bool.false_or, Bool.and_false, Bool.and_true, s6], by simp (disch := first | (simp only [go_sem, Bool.and_self, eq_self]; done) | omega | (simp only [List.length_cons, List.length_nil]; omega)) only [go_sem, ↓reduceIte, Nat.reduceEqDiff, Nat.reduceAdd, Nat.reduceMul, Nat.reduceSub, Int.reduceToNat, Nat.reduceBEq, List.size_toArray, List.length_cons, List.length_nil, Bool.false_and, Bool.true_and, Bool.or_false, Bool.false_or, Bool.and_false, Bool.and_true, s7], by simp (disch := first | (simp only [go_sem, Bool.and_self, eq_self]; done) | omega | (simp only [List.length_cons, List.length_nil]; omega)) only [go_sem, ↓reduceIte, Nat.reduceEqDiff, Nat.reduceAdd, Nat.reduceMul, Nat.reduceSub, Int.reduceToNat, Nat.reduceBEq, List.size_toArray, List.length_cons, List.length_nil, Bool.false_and, Bool.true_and, Bool.or_false, Bool.false_or, Bool.and_false, Bool.and_true, s8], F, x, rr, by simp (disch := first | (simp only [go_sem, Bool.and_self, eq_self]; done) | omega | (simp only [List.length_cons, List.length_nil]; omega)) only [go_sem, ↓reduceIte, Nat.reduceEqDiff, Nat.reduceAdd, Nat.reduceMul, Nat.reduceSub, Int.reduceToNat, Nat.reduceBEq, List.size_toArray, List.length_cons, List.length_nil, Bool.false_and, Bool.true_and, Bool.or_false, Bool.false_or, Bool.and_false, Bool.and_true, s9], ox, ar.le (by omega), dv, dw⟩
      have happ := app_one (P := Try.prog) ox 3 8 (I 0) (c : Int) isz3 ibytes3 izero3 rfl (by omega) (by omega)
      have hbs := bsB_one (P := Try.prog) 3 (I c) (I c) (I 0) h' isz3 izero3 rfl rfl rfl rfl rfl rfl rfl
      have hr3' : (rr.length : Int) < 3 := by omega
      simp (disch := first | (simp only [go_sem, Bool.and_self, eq_self]; done) | omega | (simp only [List.length_cons, List.length_nil]; omega)) only [go_sem, ↓reduceIte, Nat.reduceEqDiff, Nat.reduceAdd, Nat.reduceMul, Nat.reduceSub, Int.reduceToNat, Nat.reduceBEq, List.size_toArray, List.length_cons, List.length_nil, Bool.false_and, Bool.true_and, Bool.or_false, Bool.false_or, Bool.and_false, Bool.and_true, s4, s5, s6, s7, s8, s9, s10, s11, klen, hr3', hbs, happ]
      rw [ForK_normal]
      have hdv := Own.dis (sz := 1) F.ov (rr ++ [(c : Int)]).length 1
      have hdw := Own.dis (sz := 1) F.ow (rr ++ [(c : Int)]).length 1
      refine ⟨by omega, by simp (disch := first | (simp only [go_sem, Bool.and_self, eq_self]; done) | omega | (simp only [List.length_cons, List.length_nil]; omega)) only [go_sem, ↓reduceIte, Nat.reduceEqDiff, Nat.reduceAdd, Nat.reduceMul, Nat.reduceSub, Int.reduceToNat, Nat.reduceBEq, List.size_toArray, List.length_cons, List.length_nil, Bool.false_and, Bool.true_and, Bool.or_false, Bool.false_or, Bool.and_false, Bool.and_true, s10], by simp (disch := first | (simp only [go_sem, Bool.and_self, eq_self]; done) | omega | (simp only [List.length_cons, List.length_nil]; omega)) only [go_sem, ↓reduceIte, Nat.reduceEqDiff, Nat.reduceAdd, Nat.reduceMul, Nat.reduceSub, Int.reduceToNat, Nat.reduceBEq, List.size_toArray, List.length_cons, List.length_nil, Bool.false_and, Bool.true_and, Bool.or_false, Bool.false_or, Bool.and_false, Bool.and_true, s4], by simp (disch := first | (simp only [go_sem, Bool.and_self, eq_self]; done) | omega | (simp only [List.length_cons, List.length_nil]; omega)) only [go_sem, ↓reduceIte, Nat.reduceEqDiff, Nat.reduceAdd, Nat.reduceMul, Nat.reduceSub, Int.reduceToNat, Nat.reduceBEq, List.size_toArray, List.length_cons, List.length_nil, Bool.false_and, Bool.true_and, Bool.or_false, Bool.false_or, Bool.and_false, Bool.and_true, s5], by simp (disch := first | (simp only [go_sem, Bool.and_self, eq_self]; done) | omega | (simp only [List.length_cons, List.length_nil]; omega)) only [go_sem, ↓reduceIte, Nat.reduceEqDiff, Nat.reduceAdd, Nat.reduceMul, Nat.reduceSub, Int.reduceToNat, Nat.reduceBEq, List.size_toArray, List.length_cons, List.length_nil, Bool.false_and, Bool.true_and, Bool.or_false, Bool.false_or, Bool.and_false, Bool.and_true, s6], by simp (disch := first | (simp only [go_sem, Bool.and_self, eq_self]; done) | omega | (simp only [List.length_cons, List.length_nil]; omega)) only [go_sem, ↓reduceIte, Nat.reduceEqDiff, Nat.reduceAdd, Nat.reduceMul, Nat.reduceSub, Int.reduceToNat, Nat.reduceBEq, List.size_toArray, List.length_cons, List.length_nil, Bool.false_and, Bool.true_and, Bool.or_false, Bool.false_or, Bool.and_false, Bool.and_true, s7], by simp (disch := first | (simp only [go_sem, Bool.and_self, eq_self]; done) | omega | (simp only [List.length_cons, List.length_nil]; omega)) only [go_sem, ↓reduceIte, Nat.reduceEqDiff, Nat.reduceAdd, Nat.reduceMul, Nat.reduceSub, Int.reduceToNat, Nat.reduceBEq, List.size_toArray, List.length_cons, List.length_nil, Bool.false_and, Bool.true_and, Bool.or_false, Bool.false_or, Bool.and_false, Bool.and_true, s8], F.mono (by rw [appH_nx]; omega) ox (fun b hb hne => appH_bl _ _ _ b hb hne) dv dw, _, rr ++ [(c : Int)], by simp (disch := first | (simp only [go_sem, Bool.and_self, eq_self]; done) | omega | (simp only [List.length_cons, List.length_nil]; omega)) only [go_sem, ↓reduceIte, Nat.reduceEqDiff, Nat.reduceAdd, Nat.reduceMul, Nat.reduceSub, Int.reduceToNat, Nat.reduceBEq, List.size_toArray, List.length_cons, List.length_nil, Bool.false_and, Bool.true_and, Bool.or_false, Bool.false_or, Bool.and_false, Bool.and_true], Own.app _ _ _, ?_, hdv, hdw⟩
      have := ar.snoc (by omega) hr3
      simpa using this
    rintro st h ⟨s4, s5, s6, s7, s8, F, x, rr, s9, ox, ar, dv, dw⟩
    have klen := fun h lim => ox.lenB (e := 3) h lim
    have hrl := ar.len
    have esh := fun t => shl_one (P := Try.prog) t rr.length (by omega)
    have hN : 2 ^ rr.length ≤ 8 := Nat.pow_le_pow_right (n := 2) (by decide) hrl
    obtain ⟨N, hNe⟩ : ∃ N, N = 2 ^ rr.length := ⟨_, rfl⟩
    rw [← hNe] at esh hN
    have hmk := fun h => makeB_int (P := Try.prog) (h := h) 3 (N : Int) isz3 ibytes3 izero3 (by omega) (by omega)
    have hxc := own_cell ox
    simp (disch := first | (simp only [go_sem, Bool.and_self, eq_self]; done) | omega | (simp only [List.length_cons, List.length_nil]; omega)) only [go_sem, ↓reduceIte, Nat.reduceEqDiff, Nat.reduceAdd, Nat.reduceMul, Nat.reduceSub, Int.reduceToNat, Nat.reduceBEq, List.size_toArray, List.length_cons, List.length_nil, Bool.false_and, Bool.true_and, Bool.or_false, Bool.false_or, Bool.and_false, Bool.and_true, s4, s5, s6, s7, s8, s9, klen, esh, hmk, Int.toNat_natCast]
    have ydv : Dis (.sl h.nx 0 N 1) v := F.ov.dis N 1
    have ydw : Dis (.sl h.nx 0 N 1) w := F.ow.dis N 1
    have ydx : Dis (.sl h.nx 0 N 1) x := ox.dis N 1
    have hnx4 := F.nx
    obtain ⟨id, hid⟩ : ∃ id, id = h.nx := ⟨_, rfl⟩
    rw [← hid] at ydv ydw ydx
    refine WP_cut (fun st h => st 4 = .ptr 1 0 ∧ st 5 = .ptr 2 0 ∧ st 6 = I k ∧ st 7 = .ptr 3 0 ∧ st 8 = I i ∧ st 9 = x ∧ st 13 = .sl id 0 N 1 ∧ TF pv tv P T v w h ∧ Own (e1 I) 1 h x rr ∧ ∃ ts : List Int, ts.length = N ∧ id < h.nx ∧ h.bl id = some (.cells false true (ts.flatMap (e1 I))) ∧ ∀ j, j < N → 0 ≤ nth ts j ∧ nth ts j ≤ 16) ?_ ?_
    · refine WP_for 14 N (fun n st h => st 4 = .ptr 1 0 ∧ st 5 = .ptr 2 0 ∧ st 6 = I k ∧ st 7 = .ptr 3 0 ∧ st 8 = I i ∧ st 9 = x ∧ st 13 = .sl id 0 N 1 ∧ TF pv tv P T v w h ∧ Own (e1 I) 1 h x rr ∧ ∃ ts : List Int, ts.length = N ∧ id < h.nx ∧ h.bl id = some (.cells false true (ts.flatMap (e1 I))) ∧ ∀ j, j < n → 0 ≤ nth ts j ∧ nth ts j ≤ 16) (by simp (disch := first | (simp only [go_sem, Bool.and_self, eq_self]; done) | omega | (simp only [List.length_cons, List.length_nil]; omega)) only [go_sem, ↓reduceIte, Nat.reduceEqDiff, Nat.reduceAdd, Nat.reduceMul, Nat.reduceSub, Int.reduceToNat, Nat.reduceBEq, List.size_toArray, List.length_cons, List.length_nil, Bool.false_and, Bool.true_and, Bool.or_false, Bool.false_or, Bool.and_false, Bool.and_true]) ⟨by simp (disch := first | (simp only [go_sem, Bool.and_self, eq_self]; done) | omega | (simp only [List.length_cons, List.length_nil]; omega)) only [go_sem, ↓reduceIte, Nat.reduceEqDiff, Nat.reduceAdd, Nat.reduceMul, Nat.reduceSub, Int.reduceToNat, Nat.reduceBEq, List.size_toArray, List.length_cons, List.length_nil, Bool.false_and, Bool.true_and, Bool.or_false, Bool.false_or, Bool.and_false, Bool.and_true, s4, s5, s6, s7, s8], by simp (disch := first | (simp only [go_sem, Bool.and_self, eq_self]; done) | omega | (simp only [List.length_cons, List.length_nil]; omega)) only [go_sem, ↓reduceIte, Nat.reduceEqDiff, Nat.reduceAdd, Nat.reduceMul, Nat.reduceSub, Int.reduceToNat, Nat.reduceBEq, List.size_toArray, List.length_cons, List.length_nil, Bool.false_and, Bool.true_and, Bool.or_false, Bool.false_or, Bool.and_false, Bool.and_true, s4, s5, s6, s7, s8], by simp (disch := first | (simp only [go_sem, Bool.and_self, eq_self]; done) | omega | (simp only [List.length_cons, List.length_nil]; omega)) only [go_sem, ↓reduceIte, Nat.reduceEqDiff, Nat.reduceAdd, Nat.reduceMul, Nat.reduceSub, Int.reduceToNat, Nat.reduceBEq, List.size_toArray, List.length_cons, List.length_nil, Bool.false_and, Bool.true_and, Bool.or_false, Bool.false_or, Bool.and_false, Bool.and_true, s4, s5, s6, s7, s8], by simp (disch := first | (simp only [go_sem, Bool.and_self, eq_self]; done) | omega | (simp only [List.length_cons, List.length_nil]; omega)) only [go_sem, ↓reduceIte, Nat.reduceEqDiff, Nat.reduceAdd, Nat.reduceMul, Nat.reduceSub, Int.reduceToNat, Nat.reduceBEq, List.size_toArray, List.length_cons, List.length_nil, Bool.false_and, Bool.true_and, Bool.or_false, Bool.false_or, Bool.and_false, Bool.and_true, s4, s5, s6, s7, s8], by simp (disch := first | (simp only [go_sem, Bool.and_self, eq_self]; done) | omega | (simp only [List.length_cons, List.length_nil]; omega)) only [go_sem, ↓reduceIte, Nat.reduceEqDiff, Nat.reduceAdd, Nat.reduceMul, Nat.reduceSub, Int.reduceToNat, Nat.reduceBEq, List.size_toArray, List.length_cons, List.length_nil, Bool.false_and, Bool.true_and, Bool.or_false, Bool.false_or, Bool.and_false, Bool.and_true, s4, s5, s6, s7, s8], by simp (disch := first | (simp only [go_sem, Bool.and_self, eq_self]; done) | omega | (simp only [List.length_cons, List.length_nil]; omega)) only [go_sem, ↓reduceIte, Nat.reduceEqDiff, Nat.reduceAdd, Nat.reduceMul, Nat.reduceSub, Int.reduceToNat, Nat.reduceBEq, List.size_toArray, List.length_cons, List.length_nil, Bool.false_and, Bool.true_and, Bool.or_false, Bool.false_or, Bool.and_false, Bool.and_true, s9], by simp (disch := first | (simp only [go_sem, Bool.and_self, eq_self]; done) | omega | (simp only [List.length_cons, List.length_nil]; omega)) only [go_sem, ↓reduceIte, Nat.reduceEqDiff, Nat.reduceAdd, Nat.reduceMul, Nat.reduceSub, Int.reduceToNat, Nat.reduceBEq, List.size_toArray, List.length_cons, List.length_nil, Bool.false_and, Bool.true_and, Bool.or_false, Bool.false_or, Bool.and_false, Bool.and_true, hid], F.alloc _, ?_, List.replicate N 0, by simp, by simp (disch := first | (simp only [go_sem, Bool.and_self, eq_self]; done) | omega | (simp only [List.length_cons, List.length_nil]; omega)) only [go_sem, ↓reduceIte, Nat.reduceEqDiff, Nat.reduceAdd, Nat.reduceMul, Nat.reduceSub, Int.reduceToNat, Nat.reduceBEq, List.size_toArray, List.length_cons, List.length_nil, Bool.false_and, Bool.true_and, Bool.or_false, Bool.false_or, Bool.and_false, Bool.and_true, hid]; omega, by simp (disch := first | (simp only [go_sem, Bool.and_self, eq_self]; done) | omega | (simp only [List.length_cons, List.length_nil]; omega)) only [go_sem, ↓reduceIte, Nat.reduceEqDiff, Nat.reduceAdd, Nat.reduceMul, Nat.reduceSub, Int.reduceToNat, Nat.reduceBEq, List.size_toArray, List.length_cons, List.length_nil, Bool.false_and, Bool.true_and, Bool.or_false, Bool.false_or, Bool.and_false, Bool.and_true, hid], by omega⟩ ?_
      · exact ox.mono (by simp [Hp.alloc]) fun i hi => by simp [Hp.alloc, show ¬ i = h.nx by omega]
      rintro n st h hn s14 ⟨s4, s5, s6, s7, s8, s9, s13, F, ox, ts, tsl, hidn, bid, hts⟩
      by_cases hnN : n < N
      case neg =>
        have hnn : N = n := by omega
        simp (disch := first | (simp only [go_sem, Bool.and_self, eq_self]; done) | omega | (simp only [List.length_cons, List.length_nil]; omega)) only [go_sem, ↓reduceIte, Nat.reduceEqDiff, Nat.reduceAdd, Nat.reduceMul, Nat.reduceSub, Int.reduceToNat, Nat.reduceBEq, List.size_toArray, List.length_cons, List.length_nil, Bool.false_and, Bool.true_and, Bool.or_false, Bool.false_or, Bool.and_false, Bool.and_true, s4, s5, s6, s7, s8, s13, s14, hnN]
        exact ⟨s9, F, ox, ts, tsl, hidn, bid, fun j hj => hts j (by omega)⟩
      have b2 := F.b2
      have i2 : ¬ 2 = id := fun h => by rw [← h] at bid; rw [b2] at bid; cases bid
      have put1 : ∀ (h : Hp) (ts : List Int) (b : Blk), TF pv tv P T v w h → Own (e1 I) 1 h x rr → id < h.nx → h.bl id = some (.cells false true (ts.flatMap (e1 I))) → ts.length = N → TF pv tv P T v w (h.put id (some b)) ∧ Own (e1 I) 1 (h.put id (some b)) x rr := fun h ts b F ox hidn bid tsl => by
        have hb : ∀ i, i < h.nx → (∀ id' off n sz', AV.sl id 0 N 1 = .sl id' off n sz' → i ≠ id') → (h.put id (some b)).bl i = h.bl i := fun i _ hne => by simp [Hp.put, hne _ _ _ _ rfl]
        have oy : Own (e1 I) 1 h (.sl id 0 N 1) ts := .inr ⟨id, by rw [tsl], hidn, bid⟩
        exact ⟨F.mono (Nat.le_refl _) oy hb ydv ydw, Own.keepX ox (Nat.le_refl _) hb ydx⟩
      have fin : ∀ (u : Int), 0 ≤ u ∧ u ≤ 16 → (ts.set n u).length = N ∧ ∀ j, j < n + 1 → 0 ≤ nth (ts.set n u) j ∧ nth (ts.set n u) j ≤ 16 := fun u hu => ⟨by simpa using tsl, fun j hj => by
        rw [nth_set _ _ _ _ (by omega)]
        split
        · exact hu
        · exact hts j (by omega)⟩
      have hset : n < ts.length := by omega
      obtain ⟨F8, o8⟩ := put1 h ts (.cells false true ((ts.set n 8).flatMap (e1 I))) F ox hidn bid tsl
      have f8 := fin 8 (by omega)
      by_cases hit : i < t.length
      case neg =>
        simp (disch := first | (simp only [go_sem, Bool.and_self, eq_self]; done) | omega | (simp only [List.length_cons, List.length_nil]; omega)) only [go_sem, ↓reduceIte, Nat.reduceEqDiff, Nat.reduceAdd, Nat.reduceMul, Nat.reduceSub, Int.reduceToNat, Nat.reduceBEq, List.size_toArray, List.length_cons, List.length_nil, Bool.false_and, Bool.true_and, Bool.or_false, Bool.false_or, Bool.and_false, Bool.and_true, s4, s5, s6, s7, s8, s13, s14, hnN, hset, bid, b2, klt, hit, i2]
        rw [ForK_normal]
        exact ⟨by omega, by simp (disch := first | (simp only [go_sem, Bool.and_self, eq_self]; done) | omega | (simp only [List.length_cons, List.length_nil]; omega)) only [go_sem, ↓reduceIte, Nat.reduceEqDiff, Nat.reduceAdd, Nat.reduceMul, Nat.reduceSub, Int.reduceToNat, Nat.reduceBEq, List.size_toArray, List.length_cons, List.length_nil, Bool.false_and, Bool.true_and, Bool.or_false, Bool.false_or, Bool.and_false, Bool.and_true, s14], by simp (disch := first | (simp only [go_sem, Bool.and_self, eq_self]; done) | omega | (simp only [List.length_cons, List.length_nil]; omega)) only [go_sem, ↓reduceIte, Nat.reduceEqDiff, Nat.reduceAdd, Nat.reduceMul, Nat.reduceSub, Int.reduceToNat, Nat.reduceBEq, List.size_toArray, List.length_cons, List.length_nil, Bool.false_and, Bool.true_and, Bool.or_false, Bool.false_or, Bool.and_false, Bool.and_true, s4], by simp (disch := first | (simp only [go_sem, Bool.and_self, eq_self]; done) | omega | (simp only [List.length_cons, List.length_nil]; omega)) only [go_sem, ↓reduceIte, Nat.reduceEqDiff, Nat.reduceAdd, Nat.reduceMul, Nat.reduceSub, Int.reduceToNat, Nat.reduceBEq, List.size_toArray, List.length_cons, List.length_nil, Bool.false_and, Bool.true_and, Bool.or_false, Bool.false_or, Bool.and_false, Bool.and_true, s5], by simp (disch := first | (simp only [go_sem, Bool.and_self, eq_self]; done) | omega | (simp only [List.length_cons, List.length_nil]; omega)) only [go_sem, ↓reduceIte, Nat.reduceEqDiff, Nat.reduceAdd, Nat.reduceMul, Nat.reduceSub, Int.reduceToNat, Nat.reduceBEq, List.size_toArray, List.length_cons, List.length_nil, Bool.false_and, Bool.true_and, Bool.or_false, Bool.false_or, Bool.and_false, Bool.and_true, s6], by simp (disch := first | (simp only [go_sem, Bool.and_self, eq_self]; done) | omega | (simp only [List.length_cons, List.length_nil]; omega)) only [go_sem, ↓reduceIte, Nat.reduceEqDiff, Nat.reduceAdd, Nat.reduceMul, Nat.reduceSub, Int.reduceToNat, Nat.reduceBEq, List.size_toArray, List.length_cons, List.length_nil, Bool.false_and, Bool.true_and, Bool.or_false, Bool.false_or, Bool.and_false, Bool.and_true, s7], by simp (disch := first | (simp only [go_sem, Bool.and_self, eq_self]; done) | omega | (simp only [List.length_cons, List.length_nil]; omega)) only [go_sem, ↓reduceIte, Nat.reduceEqDiff, Nat.reduceAdd, Nat.reduceMul, Nat.reduceSub, Int.reduceToNat, Nat.reduceBEq, List.size_toArray, List.length_cons, List.length_nil, Bool.false_and, Bool.true_and, Bool.or_false, Bool.false_or, Bool.and_false, Bool.and_true, s8], by simp (disch := first | (simp only [go_sem, Bool.and_self, eq_self]; done) | omega | (simp only [List.length_cons, List.length_nil]; omega)) only [go_sem, ↓reduceIte, Nat.reduceEqDiff, Nat.reduceAdd, Nat.reduceMul, Nat.reduceSub, Int.reduceToNat, Nat.reduceBEq, List.size_toArray, List.length_cons, List.length_nil, Bool.false_and, Bool.true_and, Bool.or_false, Bool.false_or, Bool.and_false, Bool.and_true, s9], by simp (disch := first | (simp only [go_sem, Bool.and_self, eq_self]; done) | omega | (simp only [List.length_cons, List.length_nil]; omega)) only [go_sem, ↓reduceIte, Nat.reduceEqDiff, Nat.reduceAdd, Nat.reduceMul, Nat.reduceSub, Int.reduceToNat, Nat.reduceBEq, List.size_toArray, List.length_cons, List.length_nil, Bool.false_and, Bool.true_and, Bool.or_false, Bool.false_or, Bool.and_false, Bool.and_true, s13], F8, o8, ts.set n 8, f8.1, hidn, by simp (disch := first | (simp only [go_sem, Bool.and_self, eq_self]; done) | omega | (simp only [List.length_cons, List.length_nil]; omega)) only [go_sem, ↓reduceIte, Nat.reduceEqDiff, Nat.reduceAdd, Nat.reduceMul, Nat.reduceSub, Int.reduceToNat, Nat.reduceBEq, List.size_toArray, List.length_cons, List.length_nil, Bool.false_and, Bool.true_and, Bool.or_false, Bool.false_or, Bool.and_false, Bool.and_true], f8.2⟩
      have hte := ltv.some hit
      rw [hte] at b2
      have hml := okt.2 _ (nth_mem hit)
      by_cases hnt : n < (nth t i).length
      case neg =>
        simp (disch := first | (simp only [go_sem, Bool.and_self, eq_self]; done) | omega | (simp only [List.length_cons, List.length_nil]; omega)) only [go_sem, ↓reduceIte, Nat.reduceEqDiff, Nat.reduceAdd, Nat.reduceMul, Nat.reduceSub, Int.reduceToNat, Nat.reduceBEq, List.size_toArray, List.length_cons, List.length_nil, Bool.false_and, Bool.true_and, Bool.or_false, Bool.false_or, Bool.and_false, Bool.and_true, s4, s5, s6, s7, s8, s13, s14, hnN, hset, bid, b2, hit, hnt, i2]
        rw [ForK_normal]
        exact ⟨by omega, by simp (disch := first | (simp only [go_sem, Bool.and_self, eq_self]; done) | omega | (simp only [List.length_cons, List.length_nil]; omega)) only [go_sem, ↓reduceIte, Nat.reduceEqDiff, Nat.reduceAdd, Nat.reduceMul, Nat.reduceSub, Int.reduceToNat, Nat.reduceBEq, List.size_toArray, List.length_cons, List.length_nil, Bool.false_and, Bool.true_and, Bool.or_false, Bool.false_or, Bool.and_false, Bool.and_true, s14], by simp (disch := first | (simp only [go_sem, Bool.and_self, eq_self]; done) | omega | (simp only [List.length_cons, List.length_nil]; omega)) only [go_sem, ↓reduceIte, Nat.reduceEqDiff, Nat.reduceAdd, Nat.reduceMul, Nat.reduceSub, Int.reduceToNat, Nat.reduceBEq, List.size_toArray, List.length_cons, List.length_nil, Bool.false_and, Bool.true_and, Bool.or_false, Bool.false_or, Bool.and_false, Bool.and_true, s4], by simp (disch := first | (simp only [go_sem, Bool.and_self, eq_self]; done) | omega | (simp only [List.length_cons, List.length_nil]; omega)) only [go_sem, ↓reduceIte, Nat.reduceEqDiff, Nat.reduceAdd, Nat.reduceMul, Nat.reduceSub, Int.reduceToNat, Nat.reduceBEq, List.size_toArray, List.length_cons, List.length_nil, Bool.false_and, Bool.true_and, Bool.or_false, Bool.false_or, Bool.and_false, Bool.and_true, s5], by simp (disch := first | (simp only [go_sem, Bool.and_self, eq_self]; done) | omega | (simp only [List.length_cons, List.length_nil]; omega)) only [go_sem, ↓reduceIte, Nat.reduceEqDiff, Nat.reduceAdd, Nat.reduceMul, Nat.reduceSub, Int.reduceToNat, Nat.reduceBEq, List.size_toArray, List.length_cons, List.length_nil, Bool.false_and, Bool.true_and, Bool.or_false, Bool.false_or, Bool.and_false, Bool.and_true, s6], by simp (disch := first | (simp only [go_sem, Bool.and_self, eq_self]; done) | omega | (simp only [List.length_cons, List.length_nil]; omega)) only [go_sem, ↓reduceIte, Nat.reduceEqDiff, Nat.reduceAdd, Nat.reduceMul, Nat.reduceSub, Int.reduceToNat, Nat.reduceBEq, List.size_toArray, List.length_cons, List.length_nil, Bool.false_and, Bool.true_and, Bool.or_false, Bool.false_or, Bool.and_false, Bool.and_true, s7], by simp (disch := first | (simp only [go_sem, Bool.and_self, eq_self]; done) | omega | (simp only [List.length_cons, List.length_nil]; omega)) only [go_sem, ↓reduceIte, Nat.reduceEqDiff, Nat.reduceAdd, Nat.reduceMul, Nat.reduceSub, Int.reduceToNat, Nat.reduceBEq, List.size_toArray, List.length_cons, List.length_nil, Bool.false_and, Bool.true_and, Bool.or_false, Bool.false_or, Bool.and_false, Bool.and_true, s8], by simp (disch := first | (simp only [go_sem, Bool.and_self, eq_self]; done) | omega | (simp only [List.length_cons, List.length_nil]; omega)) only [go_sem, ↓reduceIte, Nat.reduceEqDiff, Nat.reduceAdd, Nat.reduceMul, Nat.reduceSub, Int.reduceToNat, Nat.reduceBEq, List.size_toArray, List.length_cons, List.length_nil, Bool.false_and, Bool.true_and, Bool.or_false, Bool.false_or, Bool.and_false, Bool.and_true, s9], by simp (disch := first | (simp only [go_sem, Bool.and_self, eq_self]; done) | omega | (simp only [List.length_cons, List.length_nil]; omega)) only [go_sem, ↓reduceIte, Nat.reduceEqDiff, Nat.reduceAdd, Nat.reduceMul, Nat.reduceSub, Int.reduceToNat, Nat.reduceBEq, List.size_toArray, List.length_cons, List.length_nil, Bool.false_and, Bool.true_and, Bool.or_false, Bool.false_or, Bool.and_false, Bool.and_true, s13], F8, o8, ts.set n 8, f8.1, hidn, by simp (disch := first | (simp only [go_sem, Bool.and_self, eq_self]; done) | omega | (simp only [List.length_cons, List.length_nil]; omega)) only [go_sem, ↓reduceIte, Nat.reduceEqDiff, Nat.reduceAdd, Nat.reduceMul, Nat.reduceSub, Int.reduceToNat, Nat.reduceBEq, List.size_toArray, List.length_cons, List.length_nil, Bool.false_and, Bool.true_and, Bool.or_false, Bool.false_or, Bool.and_false, Bool.and_true], f8.2⟩
      have k2 := fun h h'' K => k31 (h := h) (h' := h'') (K := K) (nth (nth t i) n) 17 (by decide)
      have hmo := modI_bounds (nth (nth t i) n) (n := 17) (by decide)
      have hset2 : n < (ts.set n 8).length := by omega
      obtain ⟨F9, o9⟩ := put1 (h.put id (some (.cells false true ((ts.set n 8).flatMap (e1 I))))) (ts.set n 8) (.cells false true (((ts.set n 8).set n (modI (nth (nth t i) n) 17)).flatMap (e1 I))) F8 o8 hidn (by simp [Hp.put]) f8.1
      have f9 := fin (modI (nth (nth t i) n) 17) (by omega)
      rw [← show (ts.set n 8).set n (modI (nth (nth t i) n) 17) = ts.set n (modI (nth (nth t i) n) 17) by simp] at f9
      simp (disch := first | (simp only [go_sem, Bool.and_self, eq_self]; done) | omega | (simp only [List.length_cons, List.length_nil]; omega)) only [go_sem, ↓reduceIte, Nat.reduceEqDiff, Nat.reduceAdd, Nat.reduceMul, Nat.reduceSub, Int.reduceToNat, Nat.reduceBEq, List.size_toArray, List.length_cons, List.length_nil, Bool.false_and, Bool.true_and, Bool.or_false, Bool.false_or, Bool.and_false, Bool.and_true, s4, s5, s6, s7, s8, s13, s14, hnN, hset, hset2, bid, b2, hit, hnt, i2, k2]
      rw [ForK_normal]
      exact ⟨by omega, by simp (disch := first | (simp only [go_sem, Bool.and_self, eq_self]; done) | omega | (simp only [List.length_cons, List.length_nil]; omega)) only [go_sem, ↓reduceIte, Nat.reduceEqDiff, Nat.reduceAdd, Nat.reduceMul, Nat.reduceSub, Int.reduceToNat, Nat.reduceBEq, List.size_toArray, List.length_cons, List.length_nil, Bool.false_and, Bool.true_and, Bool.or_false, Bool.false_or, Bool.and_false, Bool.and_true, s14], by simp (disch := first | (simp only [go_sem, Bool.and_self, eq_self]; done) | omega | (simp only [List.length_cons, List.length_nil]; omega)) only [go_sem, ↓reduceIte, Nat.reduceEqDiff, Nat.reduceAdd, Nat.reduceMul, Nat.reduceSub, Int.reduceToNat, Nat.reduceBEq, List.size_toArray, List.length_cons, List.length_nil, Bool.false_and, Bool.true_and, Bool.or_false, Bool.false_or, Bool.and_false, Bool.and_true, s4], by simp (disch := first | (simp only [go_sem, Bool.and_self, eq_self]; done) | omega | (simp only [List.length_cons, List.length_nil]; omega)) only [go_sem, ↓reduceIte, Nat.reduceEqDiff, Nat.reduceAdd, Nat.reduceMul, Nat.reduceSub, Int.reduceToNat, Nat.reduceBEq, List.size_toArray, List.length_cons, List.length_nil, Bool.false_and, Bool.true_and, Bool.or_false, Bool.false_or, Bool.and_false, Bool.and_true, s5], by simp (disch := first | (simp only [go_sem, Bool.and_self, eq_self]; done) | omega | (simp only [List.length_cons, List.length_nil]; omega)) only [go_sem, ↓reduceIte, Nat.reduceEqDiff, Nat.reduceAdd, Nat.reduceMul, Nat.reduceSub, Int.reduceToNat, Nat.reduceBEq, List.size_toArray, List.length_cons, List.length_nil, Bool.false_and, Bool.true_and, Bool.or_false, Bool.false_or, Bool.and_false, Bool.and_true, s6], by simp (disch := first | (simp only [go_sem, Bool.and_self, eq_self]; done) | omega | (simp only [List.length_cons, List.length_nil]; omega)) only [go_sem, ↓reduceIte, Nat.reduceEqDiff, Nat.reduceAdd, Nat.reduceMul, Nat.reduceSub, Int.reduceToNat, Nat.reduceBEq, List.size_toArray, List.length_cons, List.length_nil, Bool.false_and, Bool.true_and, Bool.or_false, Bool.false_or, Bool.and_false, Bool.and_true, s7], by simp (disch := first | (simp only [go_sem, Bool.and_self, eq_self]; done) | omega | (simp only [List.length_cons, List.length_nil]; omega)) only [go_sem, ↓reduceIte, Nat.reduceEqDiff, Nat.reduceAdd, Nat.reduceMul, Nat.reduceSub, Int.reduceToNat, Nat.reduceBEq, List.size_toArray, List.length_cons, List.length_nil, Bool.false_and, Bool.true_and, Bool.or_false, Bool.false_or, Bool.and_false, Bool.and_true, s8], by simp (disch := first | (simp only [go_sem, Bool.and_self, eq_self]; done) | omega | (simp only [List.length_cons, List.length_nil]; omega)) only [go_sem, ↓reduceIte, Nat.reduceEqDiff, Nat.reduceAdd, Nat.reduceMul, Nat.reduceSub, Int.reduceToNat, Nat.reduceBEq, List.size_toArray, List.length_cons, List.length_nil, Bool.false_and, Bool.true_and, Bool.or_false, Bool.false_or, Bool.and_false, Bool.and_true, s9], by simp (disch := first | (simp only [go_sem, Bool.and_self, eq_self]; done) | omega | (simp only [List.length_cons, List.length_nil]; omega)) only [go_sem, ↓reduceIte, Nat.reduceEqDiff, Nat.reduceAdd, Nat.reduceMul, Nat.reduceSub, Int.reduceToNat, Nat.reduceBEq, List.size_toArray, List.length_cons, List.length_nil, Bool.false_and, Bool.true_and, Bool.or_false, Bool.false_or, Bool.and_false, Bool.and_true, s13], F9, o9, _, f9.1, hidn, by simp (disch := first | (simp only [go_sem, Bool.and_self, eq_self]; done) | omega | (simp only [List.length_cons, List.length_nil]; omega)) only [go_sem, ↓reduceIte, Nat.reduceEqDiff, Nat.reduceAdd, Nat.reduceMul, Nat.reduceSub, Int.reduceToNat, Nat.reduceBEq, List.size_toArray, List.length_cons, List.length_nil, Bool.false_and, Bool.true_and, Bool.or_false, Bool.false_or, Bool.and_false, Bool.and_true], f9.2⟩
    rintro st h ⟨s4, s5, s6, s7, s8, s9, s13, F, ox, ts, tsl, hidn, bid, hts⟩
    have oy : Own (e1 I) 1 h (.sl id 0 N 1) ts := .inr ⟨id, by rw [tsl], hidn, bid⟩
    obtain ⟨h1, hs1, hn1, hb1⟩ := sealA_Own ox
    have F1 := F.mono (h' := h1) (by omega) ox (fun b _ hne => hb1 b hne) dv dw
    have oy1 : Own (e1 I) 1 h1 (.sl id 0 N 1) ts := Own.keepX oy (by omega) (fun b _ hne => hb1 b hne) ydx.symm
    have hbs1 := bsB_one (P := Try.prog) 25 x (LI rr) .nil h1 isz25 izero25 rfl rfl rfl hs1 rfl rfl (pure_L _)
    have hap1 := app_one (P := Try.prog) F1.ov 25 24 .nil rr isz25 ibytes25 izero25 rfl (by omega) (by omega)
    have hF1n := F1.nx
    have c1 := (appH_bl h1 v ((P ++ [rr]).flatMap (e1 LI)) 1 (by omega) (own_ne F1.ov F1.b1)).trans F1.b1
    have c2 := (appH_bl h1 v ((P ++ [rr]).flatMap (e1 LI)) 2 (by omega) (own_ne F1.ov F1.b2)).trans F1.b2
    have c3 := (appH_bl h1 v ((P ++ [rr]).flatMap (e1 LI)) 3 (by omega) (own_ne F1.ov F1.b3)).trans F1.b3
    have cn := appH_nx h1 v ((P ++ [rr]).flatMap (e1 LI))
    have oV := Own.app (f := e1 LI) (sz := 1) h1 v (P ++ [rr])
    have ow1 := Own.keep F1.ow F1.d ((P ++ [rr]).flatMap (e1 LI))
    have oy2 := Own.keep oy1 ydv.symm ((P ++ [rr]).flatMap (e1 LI))
    have dVw := Own.dis F1.ow (P ++ [rr]).length 1
    have dVy := Own.dis oy1 (P ++ [rr]).length 1
    generalize appH h1 v ((P ++ [rr]).flatMap (e1 LI)) = G1 at hap1 c1 c2 c3 cn oV ow1 oy2
    generalize appV h1 (P ++ [rr]).length 1 = V at hap1 oV dVw dVy
    have hV := own_cell oV
    have hst1 : storeC G1 3 0 1 (some (.cells false false [v, w])) V.cells = some (.skp, G1.put 3 (some (.cells false false [V, w]))) := store_fst hV
    have oV2 := own_put oV c3 (some (.cells false false [V, w]))
    have ow2 := own_put ow1 c3 (some (.cells false false [V, w]))
    have oy3 := own_put oy2 c3 (some (.cells false false [V, w]))
    have d1 : (G1.put 3 (some (.cells false false [V, w]))).bl 1 = some (.cells false false [.nil, .nil]) := by rw [put_bl, if_neg (by decide)]; exact c1
    have d2 : (G1.put 3 (some (.cells false false [V, w]))).bl 2 = some (.cells false false [pv, tv]) := by rw [put_bl, if_neg (by decide)]; exact c2
    have d3 : (G1.put 3 (some (.cells false false [V, w]))).bl 3 = some (.cells false false [V, w]) := by rw [put_bl, if_pos rfl]
    have dn : (G1.put 3 (some (.cells false false [V, w]))).nx = h1.nx + 1 := cn
    generalize G1.put 3 (some (.cells false false [V, w])) = G2 at hst1 oV2 ow2 oy3 d1 d2 d3 dn
    obtain ⟨h2, hs2, hn2, hb2⟩ := sealA_Own oy3
    have oV3 : Own (e1 LI) 1 h2 V (P ++ [rr]) := Own.keepX oV2 (by omega) (fun b _ hne => hb2 b hne) dVy.symm
    have ow3 : Own (e1 LI) 1 h2 w T := Own.keepX ow2 (by omega) (fun b _ hne => hb2 b hne) ydw
    have g1 := (hb2 1 (own_ne oy3 d1)).trans d1
    have g2 := (hb2 2 (own_ne oy3 d2)).trans d2
    have g3 := (hb2 3 (own_ne oy3 d3)).trans d3
    have hbs2 := bsB_one (P := Try.prog) 25 (.sl id 0 N 1) (LI ts) .nil h2 isz25 izero25 rfl rfl rfl hs2 rfl rfl (pure_L _)
    have hap2 := app_one (P := Try.prog) ow3 25 24 .nil ts isz25 ibytes25 izero25 rfl (by omega) (by omega)
    have k1 := (appH_bl h2 w ((T ++ [ts]).flatMap (e1 LI)) 1 (by omega) (own_ne ow3 g1)).trans g1
    have k2 := (appH_bl h2 w ((T ++ [ts]).flatMap (e1 LI)) 2 (by omega) (own_ne ow3 g2)).trans g2
    have k3 := (appH_bl h2 w ((T ++ [ts]).flatMap (e1 LI)) 3 (by omega) (own_ne ow3 g3)).trans g3
    have kn := appH_nx h2 w ((T ++ [ts]).flatMap (e1 LI))
    have oW := Own.app (f := e1 LI) (sz := 1) h2 w (T ++ [ts])
    have oV4 := Own.keep oV3 dVw.symm ((T ++ [ts]).flatMap (e1 LI))
    have dWV := Own.dis oV3 (T ++ [ts]).length 1
    generalize appH h2 w ((T ++ [ts]).flatMap (e1 LI)) = G3 at hap2 k1 k2 k3 kn oW oV4
    generalize appV h2 (T ++ [ts]).length 1 = U at hap2 oW dWV
    have hU := own_cell oW
    have hst2 : storeC G3 3 1 1 (some (.cells false false [V, w])) U.cells = some (.skp, G3.put 3 (some (.cells false false [V, U]))) := store_snd hU
    have b3 := F.b3
    have hF3 : 3 < h.nx := by have := F.nx; omega
    simp (disch := first | (simp only [go_sem, Bool.and_self, eq_self]; done) | omega | (simp only [List.length_cons, List.length_nil]; omega)) only [go_sem, ↓reduceIte, Nat.reduceEqDiff, Nat.reduceAdd, Nat.reduceMul, Nat.reduceSub, Int.reduceToNat, Nat.reduceBEq, List.size_toArray, List.length_cons, List.length_nil, Bool.false_and, Bool.true_and, Bool.or_false, Bool.false_or, Bool.and_false, Bool.and_true, s4, s5, s6, s7, s8, s9, s13, b3, hF3, hbs1, hap1, c3, hst1, d3, hbs2, hap2, k3, hst2]
    rw [ForK_normal]
    refine ⟨hlt, by simp (disch := first | (simp only [go_sem, Bool.and_self, eq_self]; done) | omega | (simp only [List.length_cons, List.length_nil]; omega)) only [go_sem, ↓reduceIte, Nat.reduceEqDiff, Nat.reduceAdd, Nat.reduceMul, Nat.reduceSub, Int.reduceToNat, Nat.reduceBEq, List.size_toArray, List.length_cons, List.length_nil, Bool.false_and, Bool.true_and, Bool.or_false, Bool.false_or, Bool.and_false, Bool.and_true, s8], by simp (disch := first | (simp only [go_sem, Bool.and_self, eq_self]; done) | omega | (simp only [List.length_cons, List.length_nil]; omega)) only [go_sem, ↓reduceIte, Nat.reduceEqDiff, Nat.reduceAdd, Nat.reduceMul, Nat.reduceSub, Int.reduceToNat, Nat.reduceBEq, List.size_toArray, List.length_cons, List.length_nil, Bool.false_and, Bool.true_and, Bool.or_false, Bool.false_or, Bool.and_false, Bool.and_true, s4], by simp (disch := first | (simp only [go_sem, Bool.and_self, eq_self]; done) | omega | (simp only [List.length_cons, List.length_nil]; omega)) only [go_sem, ↓reduceIte, Nat.reduceEqDiff, Nat.reduceAdd, Nat.reduceMul, Nat.reduceSub, Int.reduceToNat, Nat.reduceBEq, List.size_toArray, List.length_cons, List.length_nil, Bool.false_and, Bool.true_and, Bool.or_false, Bool.false_or, Bool.and_false, Bool.and_true, s5], by simp (disch := first | (simp only [go_sem, Bool.and_self, eq_self]; done) | omega | (simp only [List.length_cons, List.length_nil]; omega)) only [go_sem, ↓reduceIte, Nat.reduceEqDiff, Nat.reduceAdd, Nat.reduceMul, Nat.reduceSub, Int.reduceToNat, Nat.reduceBEq, List.size_toArray, List.length_cons, List.length_nil, Bool.false_and, Bool.true_and, Bool.or_false, Bool.false_or, Bool.and_false, Bool.and_true, s6], by simp (disch := first | (simp only [go_sem, Bool.and_self, eq_self]; done) | omega | (simp only [List.length_cons, List.length_nil]; omega)) only [go_sem, ↓reduceIte, Nat.reduceEqDiff, Nat.reduceAdd, Nat.reduceMul, Nat.reduceSub, Int.reduceToNat, Nat.reduceBEq, List.size_toArray, List.length_cons, List.length_nil, Bool.false_and, Bool.true_and, Bool.or_false, Bool.false_or, Bool.and_false, Bool.and_true, s7], P ++ [rr], T ++ [ts], V, U, ⟨?_, ?_, ?_, by simp (disch := first | (simp only [go_sem, Bool.and_self, eq_self]; done) | omega | (simp only [List.length_cons, List.length_nil]; omega)) only [go_sem, ↓reduceIte, Nat.reduceEqDiff, Nat.reduceAdd, Nat.reduceMul, Nat.reduceSub, Int.reduceToNat, Nat.reduceBEq, List.size_toArray, List.length_cons, List.length_nil, Bool.false_and, Bool.true_and, Bool.or_false, Bool.false_or, Bool.and_false, Bool.and_true], own_put oV4 k3 _, own_put oW k3 _, dWV.symm⟩, by simp [hPl], by simp [hTl], fun j hj => ?_⟩
    · rw [put_nx, kn]; omega
    · rw [put_bl, if_neg (by decide)]; exact k1
    · rw [put_bl, if_neg (by decide)]; exact k2
    · rcases Nat.lt_or_ge j i with h | h
      · rw [nth_append_left _ _ _ (by omega), nth_append_left _ _ _ (by omega)]; exact hok j h
      · have hji : j = i := by omega
        have e1' : nth (P ++ [rr]) j = rr := by rw [nth, List.getElem?_append_right (by omega), hPl, hji]; simp
        have e2' : nth (T ++ [ts]) j = ts := by rw [nth, List.getElem?_append_right (by omega), hTl, hji]; simp
        rw [e1', e2', hji]
        exact ar.ok (by rw [tsl, hNe]) (fun j hj => hts j (by omega))
  · rintro st h ⟨s4, s5, s6, s7, P, T, v, w, F, hPl, hTl, hok⟩
    have hk1 : 1 ≤ k := by omega
    have hv := own_cell F.ov
    have hw := own_cell F.ow
    have b1 := F.b1
    have b3 := F.b3
    have o1 := own_put F.ov b1 (some (.cells false false [v, w]))
    have o2 := own_put F.ow b1 (some (.cells false false [v, w]))
    have hex := export_net 24 o1 o2 F.d (fun e => by rw [e] at hPl; simp at hPl; omega) (fun e => by rw [e] at hTl; simp at hTl; omega)
    rw [netV_cons (fun e => by rw [e.1] at hPl; simp at hPl; omega)] at hex
    simp (disch := first | (simp only [go_sem, Bool.and_self, eq_self]; done) | omega | (simp only [List.length_cons, List.length_nil]; omega)) only [go_sem, ↓reduceIte, Nat.reduceEqDiff, Nat.reduceAdd, Nat.reduceMul, Nat.reduceSub, Int.reduceToNat, Nat.reduceBEq, List.size_toArray, List.length_cons, List.length_nil, Bool.false_and, Bool.true_and, Bool.or_false, Bool.false_or, Bool.and_false, Bool.and_true, s4, s5, s6, s7, b1, b3, hv, hw]
    refine ⟨_, hex, P, T, ?_, by omega, rfl⟩
    simp only [netB, Bool.and_eq_true, decide_eq_true_eq]
    refine ⟨⟨by simp [inB]; omega, by omega⟩, all_range fun j hj => ?_⟩
    rw [rowB_def]
    exact hok j (by omega)
theorem f30_con (p t : List (List Int)) (hp : okLL p) (ht : okLL t) (m : Int) (hm : 1 ≤ m ∧ m ≤ 10) : ∃ r, Con Try.prog cfg 30 [.agg [LLI p, LLI t], I m] r ∧ TameR m r := by
  have ml : maxLen = 9223372036854775807 := by decide
  have k16 := fun h h' K => ConW_any (h := h) (h' := h') (K := K) (f16_con p t hp ht) (by unfold netV; split <;> rfl)
  have okp := tableM_ok p
  have okt := tableM_ok t
  have lp : (tableM p).length ≤ 12 := by simp [tableM]; omega
  have lt : (tableM t).length ≤ 12 := by simp [tableM]; omega
  generalize tableM p = p' at *
  generalize tableM t = t' at *
  have hv : ∃ pv tv, netV p' t' = .agg [pv, tv] ∧ LV pv p' ∧ LV tv t' ∧ (∀ h, sealA h (.agg [pv, tv]) = some (.agg [pv, tv], h)) ∧ Con Try.prog cfg 19 [.agg [pv, tv]] (.bool (netB p' t')) ∧ (netB p' t' = true → pv = LLI p' ∧ tv = LLI t') := by
    by_cases hnil : p' = [] ∧ t' = []
    · obtain ⟨rfl, rfl⟩ := hnil
      exact ⟨.nil, .nil, netV_nil, .inr ⟨rfl, rfl⟩, .inr ⟨rfl, rfl⟩, fun _ => rfl, f19_nil, fun h => by cases h⟩
    · exact ⟨LLI p', LLI t', netV_cons hnil, .inl rfl, .inl rfl, fun h => by simp (disch := first | (simp only [go_sem, Bool.and_self, eq_self]; done) | omega | (simp only [List.length_cons, List.length_nil]; omega)) only [go_sem, ↓reduceIte, Nat.reduceEqDiff, Nat.reduceAdd, Nat.reduceMul, Nat.reduceSub, Int.reduceToNat, Nat.reduceBEq, List.size_toArray, List.length_cons, List.length_nil, Bool.false_and, Bool.true_and, Bool.or_false, Bool.false_or, Bool.and_false, Bool.and_true], f19_con p' t' okp okt, fun _ => ⟨rfl, rfl⟩⟩
  obtain ⟨pv, tv, hnv, lpv, ltv, hse, c19, hne⟩ := hv
  rw [hnv] at k16
  have k19 := fun h h' K => ConW_num (h := h) (h' := h') (K := K) c19 rfl
  have hcp := lpv.cell
  have hct := ltv.cell
  have hst := fun h => show storeC h 2 0 2 (some (.cells false false [.nil, .nil])) [pv, tv] = some (.skp, h.put 2 (some (.cells false false [pv, tv]))) by simp [storeC, hcp, hct, setL]
  have klp := lpv.len
  have klt := ltv.len
  refine Con_introE Try.func30 rfl ok30 (Nat.le_of_ble_eq_true rfl) rfl ?_
  have tl := fun st h a1 a2 a3 a4 a5 a6 => f30_tail p' t' pv tv lpv ltv okp okt lp lt m hm st h a1 a2 a3 a4 a5 a6
  have hb : Try.f30.body.getD .skip = withTail 3 (Try.f30.body.getD .skip) (tailN 3 (Try.f30.body.getD .skip)) := rfl
  rw [hb]
  generalize tailN 3 (Try.f30.body.getD .skip) = T at tl ⊢
  simp only [withTail, Try.f30, Option.getD_some, initSt2]
  cases h1 : netB p' t' with
  | true =>
    obtain ⟨rfl, rfl⟩ := hne h1
    by_cases hle : (p'.length : Int) ≤ m
    · simp (disch := first | (simp only [go_sem, Bool.and_self, eq_self]; done) | omega | (simp only [List.length_cons, List.length_nil]; omega)) only [go_sem, ↓reduceIte, Nat.reduceEqDiff, Nat.reduceAdd, Nat.reduceMul, Nat.reduceSub, Int.reduceToNat, Nat.reduceBEq, List.size_toArray, List.length_cons, List.length_nil, Bool.false_and, Bool.true_and, Bool.or_false, Bool.false_or, Bool.and_false, Bool.and_true, k16, k19, hse, hst, h1, hle]
      refine ⟨.agg [LLI p', LLI t'], ?_, p', t', h1, hle, rfl⟩
      show (exportV Try.prog false false 24 _ [] (.agg [LLI p', LLI t'])).bind _ = _
      rw [exportV_plain, hse]; rfl
    · simp (disch := first | (simp only [go_sem, Bool.and_self, eq_self]; done) | omega | (simp only [List.length_cons, List.length_nil]; omega)) only [go_sem, ↓reduceIte, Nat.reduceEqDiff, Nat.reduceAdd, Nat.reduceMul, Nat.reduceSub, Int.reduceToNat, Nat.reduceBEq, List.size_toArray, List.length_cons, List.length_nil, Bool.false_and, Bool.true_and, Bool.or_false, Bool.false_or, Bool.and_false, Bool.and_true, k16, k19, hse, hst, h1, hle]
      exact tl _ _ (by simp (disch := first | (simp only [go_sem, Bool.and_self, eq_self]; done) | omega | (simp only [List.length_cons, List.length_nil]; omega)) only [go_sem, ↓reduceIte, Nat.reduceEqDiff, Nat.reduceAdd, Nat.reduceMul, Nat.reduceSub, Int.reduceToNat, Nat.reduceBEq, List.size_toArray, List.length_cons, List.length_nil, Bool.false_and, Bool.true_and, Bool.or_false, Bool.false_or, Bool.and_false, Bool.and_true]) (by simp (disch := first | (simp only [go_sem, Bool.and_self, eq_self]; done) | omega | (simp only [List.length_cons, List.length_nil]; omega)) only [go_sem, ↓reduceIte, Nat.reduceEqDiff, Nat.reduceAdd, Nat.reduceMul, Nat.reduceSub, Int.reduceToNat, Nat.reduceBEq, List.size_toArray, List.length_cons, List.length_nil, Bool.false_and, Bool.true_and, Bool.or_false, Bool.false_or, Bool.and_false, Bool.and_true]) (by simp (disch := first | (simp only [go_sem, Bool.and_self, eq_self]; done) | omega | (simp only [List.length_cons, List.length_nil]; omega)) only [go_sem, ↓reduceIte, Nat.reduceEqDiff, Nat.reduceAdd, Nat.reduceMul, Nat.reduceSub, Int.reduceToNat, Nat.reduceBEq, List.size_toArray, List.length_cons, List.length_nil, Bool.false_and, Bool.true_and, Bool.or_false, Bool.false_or, Bool.and_false, Bool.and_true]) (by simp (disch := first | (simp only [go_sem, Bool.and_self, eq_self]; done) | omega | (simp only [List.length_cons, List.length_nil]; omega)) only [go_sem, ↓reduceIte, Nat.reduceEqDiff, Nat.reduceAdd, Nat.reduceMul, Nat.reduceSub, Int.reduceToNat, Nat.reduceBEq, List.size_toArray, List.length_cons, List.length_nil, Bool.false_and, Bool.true_and, Bool.or_false, Bool.false_or, Bool.and_false, Bool.and_true]) (by simp (disch := first | (simp only [go_sem, Bool.and_self, eq_self]; done) | omega | (simp only [List.length_cons, List.length_nil]; omega)) only [go_sem, ↓reduceIte, Nat.reduceEqDiff, Nat.reduceAdd, Nat.reduceMul, Nat.reduceSub, Int.reduceToNat, Nat.reduceBEq, List.size_toArray, List.length_cons, List.length_nil, Bool.false_and, Bool.true_and, Bool.or_false, Bool.false_or, Bool.and_false, Bool.and_true]) (by simp (disch := first | (simp only [go_sem, Bool.and_self, eq_self]; done) | omega | (simp only [List.length_cons, List.length_nil]; omega)) only [go_sem, ↓reduceIte, Nat.reduceEqDiff, Nat.reduceAdd, Nat.reduceMul, Nat.reduceSub, Int.reduceToNat, Nat.reduceBEq, List.size_toArray, List.length_cons, List.length_nil, Bool.false_and, Bool.true_and, Bool.or_false, Bool.false_or, Bool.and_false, Bool.and_true])
  | false =>
    simp (disch := first | (simp only [go_sem, Bool.and_self, eq_self]; done) | omega | (simp only [List.length_cons, List.length_nil]; omega)) only [go_sem, ↓reduceIte, Nat.reduceEqDiff, Nat.reduceAdd, Nat.reduceMul, Nat.reduceSub, Int.reduceToNat, Nat.reduceBEq, List.size_toArray, List.length_cons, List.length_nil, Bool.false_and, Bool.true_and, Bool.or_false, Bool.false_or, Bool.and_false, Bool.and_true, k16, k19, hse, hst, h1]
    exact tl _ _ (by simp (disch := first | (simp only [go_sem, Bool.and_self, eq_self]; done) | omega | (simp only [List.length_cons, List.length_nil]; omega)) only [go_sem, ↓reduceIte, Nat.reduceEqDiff, Nat.reduceAdd, Nat.reduceMul, Nat.reduceSub, Int.reduceToNat, Nat.reduceBEq, List.size_toArray, List.length_cons, List.length_nil, Bool.false_and, Bool.true_and, Bool.or_false, Bool.false_or, Bool.and_false, Bool.and_true]) (by simp (disch := first | (simp only [go_sem, Bool.and_self, eq_self]; done) | omega | (simp only [List.length_cons, List.length_nil]; omega)) only [go_sem, ↓reduceIte, Nat.reduceEqDiff, Nat.reduceAdd, Nat.reduceMul, Nat.reduceSub, Int.reduceToNat, Nat.reduceBEq, List.size_toArray, List.length_cons, List.length_nil, Bool.false_and, Bool.true_and, Bool.or_false, Bool.false_or, Bool.and_false, Bool.and_true]) (by simp (disch := first | (simp only [go_sem, Bool.and_self, eq_self]; done) | omega | (simp only [List.length_cons, List.length_nil]; omega)) only [go_sem, ↓reduceIte, Nat.reduceEqDiff, Nat.reduceAdd, Nat.reduceMul, Nat.reduceSub, Int.reduceToNat, Nat.reduceBEq, List.size_toArray, List.length_cons, List.length_nil, Bool.false_and, Bool.true_and, Bool.or_false, Bool.false_or, Bool.and_false, Bool.and_true]) (by simp (disch := first | (simp only [go_sem, Bool.and_self, eq_self]; done) | omega | (simp only [List.length_cons, List.length_nil]; omega)) only [go_sem, ↓reduceIte, Nat.reduceEqDiff, Nat.reduceAdd, Nat.reduceMul, Nat.reduceSub, Int.reduceToNat, Nat.reduceBEq, List.size_toArray, List.length_cons, List.length_nil, Bool.false_and, Bool.true_and, Bool.or_false, Bool.false_or, Bool.and_false, Bool.and_true]) (by simp (disch := first | (simp only [go_sem, Bool.and_self, eq_self]; done) | omega | (simp only [List.length_cons, List.length_nil]; omega)) only [go_sem, ↓reduceIte, Nat.reduceEqDiff, Nat.reduceAdd, Nat.reduceMul, Nat.reduceSub, Int.reduceToNat, Nat.reduceBEq, List.size_toArray, List.length_cons, List.length_nil, Bool.false_and, Bool.true_and, Bool.or_false, Bool.false_or, Bool.and_false, Bool.and_true]) (by simp (disch := first | (simp only [go_sem, Bool.and_self, eq_self]; done) | omega | (simp only [List.length_cons, List.length_nil]; omega)) only [go_sem, ↓reduceIte, Nat.reduceEqDiff, Nat.reduceAdd, Nat.reduceMul, Nat.reduceSub, Int.reduceToNat, Nat.reduceBEq, List.size_toArray, List.length_cons, List.length_nil, Bool.false_and, Bool.true_and, Bool.or_false, Bool.false_or, Bool.and_false, Bool.and_true])

end Go.Proofs.Ytpkakapbepkfdaa

set_option linter.unusedVariables false
set_option linter.unusedSimpArgs false
set_option maxRecDepth 10000
namespace Go.Proofs.Ytpkakapbepkfdaa
open Go Go.Am

variable {h h' : Hp} {K : AV → Hp → Prop}

theorem list_ext_nth {a b : List Int} (hl : a.length = b.length) (h : ∀ i, i < a.length → nth a i = nth b i) : a = b :=
  List.ext_getElem hl fun i h1 h2 => by rw [← nth_getElem h1, ← nth_getElem h2]; exact h i h1
theorem f39_con (a b : List Int) (ha : a.length ≤ maxLen) (hb : b.length ≤ maxLen) : Con Try.prog cfg 39 [LI a, LI b] (.bool (decide (a = b))) := by
  have ml : maxLen = 9223372036854775807 := by decide
  refine Con_intro Try.func39 rfl ok39 (Nat.le_of_ble_eq_true rfl) rfl ?_
  simp only [Try.f39, Option.getD_some, initSt2]
  by_cases hl : a.length = b.length
  case neg =>
    have hn : ¬ (a.length : Int) = b.length := by omega
    have hr : ¬ a = b := fun h => hl (by rw [h])
    simp (disch := first | (simp only [go_sem, Bool.and_self, eq_self]; done) | omega | (simp only [List.length_cons, List.length_nil]; omega)) only [go_sem, ↓reduceIte, Nat.reduceEqDiff, Nat.reduceAdd, Nat.reduceMul, Nat.reduceSub, Int.reduceToNat, Nat.reduceBEq, List.size_toArray, List.length_cons, List.length_nil, Bool.false_and, Bool.true_and, Bool.or_false, Bool.false_or, Bool.and_false, Bool.and_true, hn, hr]
  have hn : (a.length : Int) = b.length := by omega
  simp (disch := first | (simp only [go_sem, Bool.and_self, eq_self]; done) | omega | (simp only [List.length_cons, List.length_nil]; omega)) only [go_sem, ↓reduceIte, Nat.reduceEqDiff, Nat.reduceAdd, Nat.reduceMul, Nat.reduceSub, Int.reduceToNat, Nat.reduceBEq, List.size_toArray, List.length_cons, List.length_nil, Bool.false_and, Bool.true_and, Bool.or_false, Bool.false_or, Bool.and_false, Bool.and_true, hn]
  refine WP_for 5 a.length (fun i st h => st 0 = LI a ∧ st 1 = LI b ∧ st 4 = .bool false ∧ ∀ j, j < i → nth a j = nth b j) (by simp (disch := first | (simp only [go_sem, Bool.and_self, eq_self]; done) | omega | (simp only [List.length_cons, List.length_nil]; omega)) only [go_sem, ↓reduceIte, Nat.reduceEqDiff, Nat.reduceAdd, Nat.reduceMul, Nat.reduceSub, Int.reduceToNat, Nat.reduceBEq, List.size_toArray, List.length_cons, List.length_nil, Bool.false_and, Bool.true_and, Bool.or_false, Bool.false_or, Bool.and_false, Bool.and_true]) ⟨by simp (disch := first | (simp only [go_sem, Bool.and_self, eq_self]; done) | omega | (simp only [List.length_cons, List.length_nil]; omega)) only [go_sem, ↓reduceIte, Nat.reduceEqDiff, Nat.reduceAdd, Nat.reduceMul, Nat.reduceSub, Int.reduceToNat, Nat.reduceBEq, List.size_toArray, List.length_cons, List.length_nil, Bool.false_and, Bool.true_and, Bool.or_false, Bool.false_or, Bool.and_false, Bool.and_true], by simp (disch := first | (simp only [go_sem, Bool.and_self, eq_self]; done) | omega | (simp only [List.length_cons, List.length_nil]; omega)) only [go_sem, ↓reduceIte, Nat.reduceEqDiff, Nat.reduceAdd, Nat.reduceMul, Nat.reduceSub, Int.reduceToNat, Nat.reduceBEq, List.size_toArray, List.length_cons, List.length_nil, Bool.false_and, Bool.true_and, Bool.or_false, Bool.false_or, Bool.and_false, Bool.and_true], by simp (disch := first | (simp only [go_sem, Bool.and_self, eq_self]; done) | omega | (simp only [List.length_cons, List.length_nil]; omega)) only [go_sem, ↓reduceIte, Nat.reduceEqDiff, Nat.reduceAdd, Nat.reduceMul, Nat.reduceSub, Int.reduceToNat, Nat.reduceBEq, List.size_toArray, List.length_cons, List.length_nil, Bool.false_and, Bool.true_and, Bool.or_false, Bool.false_or, Bool.and_false, Bool.and_true], by omega⟩ ?_
  rintro i st h hi s5 ⟨s0, s1, s4, hg⟩
  by_cases hlt : i < a.length
  case neg =>
    have hab : a = b := list_ext_nth hl fun j hj => hg j (by omega)
    have hlt2 : ¬ (i : Int) < a.length := by omega
    subst hab
    simp (disch := first | (simp only [go_sem, Bool.and_self, eq_self]; done) | omega | (simp only [List.length_cons, List.length_nil]; omega)) only [go_sem, ↓reduceIte, Nat.reduceEqDiff, Nat.reduceAdd, Nat.reduceMul, Nat.reduceSub, Int.reduceToNat, Nat.reduceBEq, List.size_toArray, List.length_cons, List.length_nil, Bool.false_and, Bool.true_and, Bool.or_false, Bool.false_or, Bool.and_false, Bool.and_true, s0, s1, s4, s5, hlt]
  have hlb : i < b.length := by omega
  by_cases he : nth a i = nth b i
  · simp (disch := first | (simp only [go_sem, Bool.and_self, eq_self]; done) | omega | (simp only [List.length_cons, List.length_nil]; omega)) only [go_sem, ↓reduceIte, Nat.reduceEqDiff, Nat.reduceAdd, Nat.reduceMul, Nat.reduceSub, Int.reduceToNat, Nat.reduceBEq, List.size_toArray, List.length_cons, List.length_nil, Bool.false_and, Bool.true_and, Bool.or_false, Bool.false_or, Bool.and_false, Bool.and_true, s0, s1, s4, s5, hlt, hlb, he]
    rw [ForK_normal]
    exact ⟨hlt, by simp (disch := first | (simp only [go_sem, Bool.and_self, eq_self]; done) | omega | (simp only [List.length_cons, List.length_nil]; omega)) only [go_sem, ↓reduceIte, Nat.reduceEqDiff, Nat.reduceAdd, Nat.reduceMul, Nat.reduceSub, Int.reduceToNat, Nat.reduceBEq, List.size_toArray, List.length_cons, List.length_nil, Bool.false_and, Bool.true_and, Bool.or_false, Bool.false_or, Bool.and_false, Bool.and_true, s5], by simp (disch := first | (simp only [go_sem, Bool.and_self, eq_self]; done) | omega | (simp only [List.length_cons, List.length_nil]; omega)) only [go_sem, ↓reduceIte, Nat.reduceEqDiff, Nat.reduceAdd, Nat.reduceMul, Nat.reduceSub, Int.reduceToNat, Nat.reduceBEq, List.size_toArray, List.length_cons, List.length_nil, Bool.false_and, Bool.true_and, Bool.or_false, Bool.false_or, Bool.and_false, Bool.and_true, s0], by simp (disch := first | (simp only [go_sem, Bool.and_self, eq_self]; done) | omega | (simp only [List.length_cons, List.length_nil]; omega)) only [go_sem, ↓reduceIte, Nat.reduceEqDiff, Nat.reduceAdd, Nat.reduceMul, Nat.reduceSub, Int.reduceToNat, Nat.reduceBEq, List.size_toArray, List.length_cons, List.length_nil, Bool.false_and, Bool.true_and, Bool.or_false, Bool.false_or, Bool.and_false, Bool.and_true, s1], by simp (disch := first | (simp only [go_sem, Bool.and_self, eq_self]; done) | omega | (simp only [List.length_cons, List.length_nil]; omega)) only [go_sem, ↓reduceIte, Nat.reduceEqDiff, Nat.reduceAdd, Nat.reduceMul, Nat.reduceSub, Int.reduceToNat, Nat.reduceBEq, List.size_toArray, List.length_cons, List.length_nil, Bool.false_and, Bool.true_and, Bool.or_false, Bool.false_or, Bool.and_false, Bool.and_true, s4], fun j hj => by
      rcases Nat.lt_or_ge j i with h | h
      · exact hg j h
      · rw [show j = i by omega]; exact he⟩
  · have hr : ¬ a = b := fun h => he (by rw [h])
    simp (disch := first | (simp only [go_sem, Bool.and_self, eq_self]; done) | omega | (simp only [List.length_cons, List.length_nil]; omega)) only [go_sem, ↓reduceIte, Nat.reduceEqDiff, Nat.reduceAdd, Nat.reduceMul, Nat.reduceSub, Int.reduceToNat, Nat.reduceBEq, List.size_toArray, List.length_cons, List.length_nil, Bool.false_and, Bool.true_and, Bool.or_false, Bool.false_or, Bool.and_false, Bool.and_true, s0, s1, s4, s5, hlt, hlb, he, hr]
theorem f66_con (xs : List Int) (h0 : 0 < xs.length) (hl : xs.length ≤ 10) : Con Try.prog cfg 66 [LI xs] (.fresh 1 (xs.flatMap (e1 I))) := by
  have happ := fun (h : Hp) (hb : h.bl 0 = some (.cells false true [])) => app_own (P := Try.prog) (h := h) (f := e1 I) 3 8 (I 0) (LI xs) 0 [] xs 0 isz3 ibytes3 izero3 rfl hb rfl (cellsOf_L _ _) (lenA_L _ _) (by simp; omega) (by simp; omega)
  have hne : binA Try.prog .eql 25 (LI xs) .nil = some (.bool false) := by
    cases xs with
    | nil => simp at h0
    | cons x xs => rfl
  have hex : ∀ h : Hp, exportR Try.prog true false [25] (((h.alloc (.cells false true [])).put 0 none).alloc (.cells false true (xs.flatMap (e1 I)))) (.sl (h.nx + 1) 0 xs.length 1) = some (.fresh 1 (xs.flatMap (e1 I))) := fun h =>
    export_fresh (f := e1 I) false 25 3 und25 rfl (.inr ⟨h.nx + 1, rfl, by simp [Hp.alloc, Hp.put], by simp [Hp.alloc, Hp.put]⟩)
  refine Con_intro Try.func66 rfl ok66 (Nat.le_of_ble_eq_true rfl) rfl ?_
  simp only [Try.f66, Option.getD_some, initSt1]
  have hbs := fun h => bsB_empty (P := Try.prog) (h := h) 3 1 (I 0) isz3 izero3 Nat.one_pos
  simp (disch := first | (simp only [go_sem, Bool.and_self, eq_self]; done) | omega | (simp only [List.length_cons, List.length_nil]; omega)) only [go_sem, ↓reduceIte, Nat.reduceEqDiff, Nat.reduceAdd, Nat.reduceMul, Nat.reduceSub, Int.reduceToNat, Nat.reduceBEq, List.size_toArray, List.length_cons, List.length_nil, Bool.false_and, Bool.true_and, Bool.or_false, Bool.false_or, Bool.and_false, Bool.and_true, hne, hbs]
  have happ' := happ (Hp.empty.alloc (.cells false true [])) (by simp [Hp.alloc, Hp.empty])
  simp only [List.length_nil, Nat.zero_add, List.nil_append] at happ'
  simp (disch := first | (simp only [go_sem, Bool.and_self, eq_self]; done) | omega | (simp only [List.length_cons, List.length_nil]; omega)) only [go_sem, ↓reduceIte, Nat.reduceEqDiff, Nat.reduceAdd, Nat.reduceMul, Nat.reduceSub, Int.reduceToNat, Nat.reduceBEq, List.size_toArray, List.length_cons, List.length_nil, Bool.false_and, Bool.true_and, Bool.or_false, Bool.false_or, Bool.and_false, Bool.and_true, happ']
  exact hex Hp.empty
theorem chance_scalar (p t : List (List Int)) (f g : List (Int × Int)) : (chanceR p t f g).isScalar = true := by
  unfold chanceR
  repeat' split
  all_goals rfl
theorem refC_scalar (p t : List (List Int)) (f g : List (Int × Int)) : (refC p t f g).isScalar = true := by
  unfold refC
  repeat' split
  all_goals rfl

end Go.Proofs.Ytpkakapbepkfdaa

set_option linter.unusedVariables false
set_option linter.unusedSimpArgs false
set_option maxRecDepth 10000
namespace Go.Proofs.Ytpkakapbepkfdaa
open Go Go.Am

variable {h h' : Hp} {K : AV → Hp → Prop}

theorem f63_con (x : Int) (hx : 0 ≤ x ∧ x ≤ 4611686018427387904) : Con Try.prog cfg 63 [I x] (I x) := by
  have hm : max x (0 - x) = x := by omega
  refine Con_intro Try.func63 rfl ok63 (Nat.le_of_ble_eq_true rfl) rfl ?_
  simp only [Try.f63, Option.getD_some, initSt1]
  simp (disch := first | (simp only [go_sem, Bool.and_self, eq_self]; done) | omega | (simp only [List.length_cons, List.length_nil]; omega)) only [go_sem, ↓reduceIte, Nat.reduceEqDiff, Nat.reduceAdd, Nat.reduceMul, Nat.reduceSub, Int.reduceToNat, Nat.reduceBEq, List.size_toArray, List.length_cons, List.length_nil, Bool.false_and, Bool.true_and, Bool.or_false, Bool.false_or, Bool.and_false, Bool.and_true, hm]
theorem f34_con (a b : Int) (ha : 0 ≤ a ∧ a ≤ 4611686018427387904) (hb : 0 < b ∧ b ≤ 4611686018427387904) (hg : gcdI a b = 1) : Con Try.prog cfg 34 [.agg [I a, I b]] (.bool true) := by
  have h1 := Int.tmod_nonneg b ha.1
  have h2 := Int.tmod_lt_of_pos a hb.1
  have k63 := fun h h' K => ConW_num (h := h) (h' := h') (K := K) (f63_con (a.tmod b) (by omega)) rfl
  have k62' := fun h h' K => k62 (h := h) (h' := h') (K := K) b (a.tmod b) (by omega) (by omega)
  have hs := gcdI_step ha.1 hb.1
  rw [hs, hg] at k62'
  have n1 : ¬ b < 1 := by omega
  have n0 : ¬ b = 0 := by omega
  have hal : ∀ g : Hp, allocB g (some (.agg [I a, I b])) = some (.ptr g.nx 0, g.alloc (.cells false false [I a, I b])) := fun g => allocB_agg _ rfl
  refine Con_intro Try.func34 rfl ok34 (Nat.le_of_ble_eq_true rfl) rfl ?_
  simp only [Try.f34, Option.getD_some, initSt1]
  simp (disch := first | (simp only [go_sem, Bool.and_self, eq_self]; done) | omega | (simp only [List.length_cons, List.length_nil]; omega)) only [go_sem, ↓reduceIte, Nat.reduceEqDiff, Nat.reduceAdd, Nat.reduceMul, Nat.reduceSub, Int.reduceToNat, Nat.reduceBEq, List.size_toArray, List.length_cons, List.length_nil, Bool.false_and, Bool.true_and, Bool.or_false, Bool.false_or, Bool.and_false, Bool.and_true, hal, n1, n0, k63, k62']
theorem redu_gcd {a b : Int} (hb : 0 < b) : gcdI (a / gcdI a b) (b / gcdI a b) = 1 := by
  have h : 0 < Int.gcd a b := Int.gcd_pos_of_ne_zero_right _ (by omega)
  have := Int.gcd_ediv_gcd_ediv_gcd h
  unfold gcdI
  rw [this]; rfl
theorem redu_pos {a b : Int} (ha : 0 < a) (hb : 0 < b) : 0 < a / gcdI a b ∧ 0 < b / gcdI a b ∧ a / gcdI a b ≤ a ∧ b / gcdI a b ≤ b := by
  have hg := gcdI_pos (a := a) hb
  have d1 : gcdI a b ∣ a := Int.gcd_dvd_left a b
  have d2 : gcdI a b ∣ b := Int.gcd_dvd_right a b
  refine ⟨Int.ediv_pos_of_pos_of_dvd ha (by omega) d1, Int.ediv_pos_of_pos_of_dvd hb (by omega) d2, Int.ediv_le_self _ (by omega), Int.ediv_le_self _ (by omega)⟩
theorem redu_mul (a b : Int) : gcdI a b * (a / gcdI a b) = a ∧ gcdI a b * (b / gcdI a b) = b :=
  ⟨Int.mul_ediv_cancel' (Int.gcd_dvd_left a b), Int.mul_ediv_cancel' (Int.gcd_dvd_right a b)⟩
/-- Two fractions with one denominator, reduced, and compared crosswise. -/
theorem cross {x y d : Int} (hd : 0 < d) : (x / gcdI x d * (d / gcdI y d) < y / gcdI y d * (d / gcdI x d) ↔ x < y) ∧ (x / gcdI x d * (d / gcdI y d) = y / gcdI y d * (d / gcdI x d) ↔ x = y) := by
  have hgx := gcdI_pos (a := x) hd
  have hgy := gcdI_pos (a := y) hd
  obtain ⟨x1, x2⟩ := redu_mul x d
  obtain ⟨y1, y2⟩ := redu_mul y d
  generalize gcdI x d = g at *
  generalize gcdI y d = k at *
  generalize x / g = a at *
  generalize d / g = c at *
  generalize y / k = b at *
  generalize d / k = e at *
  have hG : 0 < g * k := Int.mul_pos hgx hgy
  have h1 : g * k * (a * e) = x * d := by rw [← x1, ← y2]; rw [show g * k * (a * e) = (g * a) * (k * e) by rw [Int.mul_assoc, Int.mul_left_comm k a e, ← Int.mul_assoc]]
  have h2 : g * k * (b * c) = y * d := by rw [← y1, ← x2]; rw [Int.mul_comm g k, Int.mul_assoc, Int.mul_left_comm g b c, ← Int.mul_assoc]
  constructor
  · rw [← Int.mul_lt_mul_left hG, h1, h2]; exact Int.mul_lt_mul_right hd
  · constructor
    · intro h
      have h3 : x * d = y * d := by rw [← h1, ← h2, h]
      exact Int.eq_of_mul_eq_mul_right (by omega) h3
    · rintro rfl
      have h3 : g * k * (a * e) = g * k * (b * c) := by rw [h1, h2]
      exact Int.eq_of_mul_eq_mul_left (by omega) h3

theorem sumN_nonneg_zero {f : Nat → Int} : ∀ {n : Nat}, (∀ i, i < n → f i = 0) → sumN f n = 0
  | 0, _ => rfl
  | n + 1, h => by rw [sumN, sumN_nonneg_zero (fun i hi => h i (by omega)), h n (by omega)]; rfl
theorem redu_bounds {a b : Int} (ha : 0 ≤ a) (hb : 0 < b) : 0 ≤ a / gcdI a b ∧ 0 < b / gcdI a b ∧ a / gcdI a b ≤ a ∧ b / gcdI a b ≤ b := by
  have hg := gcdI_pos (a := a) hb
  have d2 : gcdI a b ∣ b := Int.gcd_dvd_right a b
  exact ⟨Int.ediv_nonneg ha (by omega), Int.ediv_pos_of_pos_of_dvd hb (by omega) d2, Int.ediv_le_self _ ha, Int.ediv_le_self _ (by omega)⟩
def agP (v : List Int) (g : List (Int × Int)) (i : Nat) : Bool := (List.range i).all fun j => decide (nth v (nth g j).1.toNat = (nth g j).2)
theorem agP_succ (v : List Int) (g : List (Int × Int)) (i : Nat) : agP v g (i + 1) = (agP v g i && decide (nth v (nth g i).1.toNat = (nth g i).2)) := by simp [agP, List.range_succ]
theorem agP_all (v : List Int) (g : List (Int × Int)) : agP v g g.length = agreeB v g := by
  rw [Bool.eq_iff_iff, agP, agreeB, List.all_eq_true, List.all_eq_true]
  constructor
  · intro h q hq
    obtain ⟨j, hj, rfl⟩ := List.getElem_of_mem hq
    rw [← nth_getElem hj]; exact h j (by simpa using hj)
  · intro h j hj
    have := h (nth g j) (nth_mem (by simpa using hj))
    exact this
theorem okLL_net {p t : List (List Int)} (h : netB p t = true) : okLL p ∧ okLL t := by
  have ml : maxLen = 9223372036854775807 := by decide
  have N := Net.of h
  have n1 := N.n1
  simp only [netB, Bool.and_eq_true, decide_eq_true_eq] at h
  refine ⟨⟨by omega, fun r hr => ?_⟩, ⟨by omega, fun r hr => ?_⟩⟩
  · obtain ⟨i, hi, rfl⟩ := List.getElem_of_mem hr
    have := range_all h.2 hi
    rw [rowB_def, rowOK] at this
    simp only [Bool.and_eq_true, decide_eq_true_eq] at this
    rw [← nth_getElem hi]; omega
  · obtain ⟨i, hi, rfl⟩ := List.getElem_of_mem hr
    have := range_all h.2 (show i < p.length by omega)
    rw [rowB_def, rowOK] at this
    simp only [Bool.and_eq_true, decide_eq_true_eq] at this
    have h8 : 2 ^ (nth p i).length ≤ 2 ^ 3 := Nat.pow_le_pow_right (by decide) this.1.1.1
    rw [← nth_getElem hi]; omega
theorem joint_row {p t : List (List Int)} (h1 : netB p t = true) (x : Nat) : jointR p t (rowN p.length x) = .tup [redu (weightB p t (rowN p.length x) p.length) (16 ^ p.length), I 0] := by
  have hrow : rowOkB p (rowN p.length x) = true := by
    simp only [rowOkB, rowN_len, decide_true, Bool.true_and]
    rw [not_any_nth (f := fun x => !inB x 0 1) fun j hj => by
      rw [rowN_len] at hj
      rcases (row_rowN (p := p) (x := x)).bit j hj with h | h <;> rw [h] <;> rfl]
    rfl
  rw [jointR, h1, hrow, weight_ten (Net.of h1) hrow]; rfl
theorem pow28 {n : Nat} (h : n ≤ 7) : (16 : Int) ^ n ≤ 268435456 := by
  have h1 : (16 : Nat) ^ n ≤ 268435456 := Nat.pow_le_pow_right (n := 16) (by decide) h
  have e : (16 : Int) ^ n = ((16 ^ n : Nat) : Int) := by simp
  rw [e]; omega


end Go.Proofs.Ytpkakapbepkfdaa

set_option linter.unusedVariables false
set_option linter.unusedSimpArgs false
set_option maxRecDepth 10000
namespace Go.Proofs.Ytpkakapbepkfdaa
open Go Go.Am

variable {h h' : Hp} {K : AV → Hp → Prop}

theorem rowN_two (m y b : Nat) (hb : b < 2) : rowN (m + 1) (2 * y + b) = rowN m y ++ [(b : Int)] := by
  refine list_ext_nth (by simp [rowN_len]) fun j hj => ?_
  rw [rowN_len] at hj
  rw [rowN_nth hj]
  by_cases h : j < m
  · rw [nth_append_left _ _ _ (by rw [rowN_len]; exact h), rowN_nth h]
    have e : 2 ^ (m + 1 - 1 - j) = 2 * 2 ^ (m - 1 - j) := by
      rw [← Nat.pow_succ']; congr 1; omega
    rw [e, ← Nat.div_div_eq_div_mul, show (2 * y + b) / 2 = y by omega]
  · have hjm : j = m := by omega
    subst hjm
    rw [nth, List.getElem?_append_right (by rw [rowN_len]; omega), rowN_len]
    simp only [Nat.sub_self, List.getElem?_cons_zero, Option.getD_some, Nat.add_sub_cancel, Nat.pow_zero, Nat.div_one]
    omega
theorem sumN_two (f : Nat → Int) : ∀ n, sumN f (2 * n) = sumN (fun y => f (2 * y) + f (2 * y + 1)) n
  | 0 => rfl
  | n + 1 => by
    have e : 2 * (n + 1) = 2 * n + 1 + 1 := by omega
    rw [e, sumN, sumN, sumN_two f n, sumN]; omega
theorem sumN_mul (f : Nat → Int) (c : Int) : ∀ n, sumN (fun y => f y * c) n = sumN f n * c
  | 0 => by simp [sumN]
  | n + 1 => by rw [sumN, sumN, sumN_mul f c n, Int.add_mul]
theorem wt_front {p t : List (List Int)} (N : Net p t) {v w : List Int} {i : Nat} (hi : i < p.length) (h : ∀ k, k ≤ i → nth v k = nth w k) : wt p t v i = wt p t w i := by
  have : caseF (nth p i) v (nth p i).length = caseF (nth p i) w (nth p i).length := caseF_congr fun k hk => by
    obtain ⟨a0, a1⟩ := N.par i k hi hk
    exact h _ (by omega)
  simp only [wt, this, h i (Nat.le_refl _)]
theorem total {p t : List (List Int)} (N : Net p t) : ∀ m, m ≤ p.length → sumN (fun x => prodN (wt p t (rowN m x)) m) (2 ^ m) = 16 ^ m
  | 0, _ => by simp [sumN, prodN]
  | m + 1, hm => by
    have ih := total N m (by omega)
    rw [Nat.pow_succ, Nat.mul_comm, sumN_two]
    have e : ∀ y, y < 2 ^ m → (fun y => prodN (wt p t (rowN (m + 1) (2 * y))) (m + 1) + prodN (wt p t (rowN (m + 1) (2 * y + 1))) (m + 1)) y = (fun y => prodN (wt p t (rowN m y)) m * 16) y := by
      intro y _
      have r0 := rowN_two m y 0 (by decide)
      have r1 := rowN_two m y 1 (by decide)
      simp only [Nat.add_zero] at r0
      have fr : ∀ b : Int, prodN (wt p t (rowN m y ++ [b])) m = prodN (wt p t (rowN m y)) m := fun b => prodN_congr fun i hi => wt_front N (by omega) fun k hk => nth_append_left _ _ _ (by rw [rowN_len]; omega)
      have last : ∀ b : Int, nth (rowN m y ++ [b]) m = b := fun b => by rw [nth, List.getElem?_append_right (by rw [rowN_len]; omega), rowN_len]; simp
      have cs : ∀ b : Int, caseF (nth p m) (rowN m y ++ [b]) (nth p m).length = caseF (nth p m) (rowN m y) (nth p m).length := fun b => caseF_congr fun k hk => by
        obtain ⟨a0, a1⟩ := N.par m k (by omega) hk
        exact nth_append_left _ _ _ (by rw [rowN_len]; omega)
      simp only [r0, r1, prodN, fr, wt, last, cs]
      simp only [show ((0 : Nat) : Int) = 0 from rfl, show ((1 : Nat) : Int) = 1 from rfl, if_true, show ¬ (1 : Int) = 0 by decide, if_false]
      rw [← Int.mul_add]; congr 1; omega
    rw [sumN_congr e, sumN_mul, ih, Int.pow_succ]
theorem total_weight {p t : List (List Int)} (N : Net p t) : sumN (fun x => weightB p t (rowN p.length x) p.length) (2 ^ p.length) = 16 ^ p.length := total N p.length (Nat.le_refl _)

/-- A reduced fraction with a denominator that is known, back. -/
theorem redu_back {a b : Int} (hb : 0 < b) : b.tmod (b / gcdI a b) = 0 ∧ b.tdiv (b / gcdI a b) = gcdI a b ∧ a / gcdI a b * gcdI a b = a := by
  have hg := gcdI_pos (a := a) hb
  have hp : 0 < b / gcdI a b := Int.ediv_pos_of_pos_of_dvd hb (by omega) (Int.gcd_dvd_right a b)
  obtain ⟨m1, m2⟩ := redu_mul a b
  generalize gcdI a b = g at *
  generalize b / g = c at *
  refine ⟨?_, ?_, by rw [Int.mul_comm]; exact m1⟩
  · rw [Int.tmod_eq_emod_of_nonneg (by omega), ← m2]; exact Int.mul_emod_left g c
  · rw [Int.tdiv_eq_ediv_of_nonneg (by omega), ← m2]; exact Int.mul_ediv_cancel g (by omega)
theorem sumN_bounds {f : Nat → Int} {M : Int} (h : ∀ i, 0 ≤ f i ∧ f i ≤ M) : ∀ n : Nat, 0 ≤ sumN f n ∧ sumN f n ≤ n * M
  | 0 => by simp [sumN]
  | n + 1 => by
    have h1 := sumN_bounds h n
    have h2 := h n
    rw [sumN]
    have e : ((n + 1 : Nat) : Int) * M = n * M + M := by rw [Int.natCast_add, Int.add_mul]; simp
    rw [e]; omega

end Go.Proofs.Ytpkakapbepkfdaa

set_option linter.unusedVariables false
set_option linter.unusedSimpArgs false
set_option maxRecDepth 10000
namespace Go.Proofs.Ytpkakapbepkfdaa
open Go Go.Am

variable {h h' : Hp} {K : AV → Hp → Prop}

theorem WP_from {P : Program} {cfg : Cfg} {st : St} {h : Hp} {Q : Exit → St → Hp → Prop} {b : Code} (c n s : Nat) (J : Nat → St → Hp → Prop) (hs : s ≤ n) (h0 : st c = I s) (hJ : J s st h)
    (step : ∀ (i : Nat) st h, s ≤ i → i ≤ n → st c = I (i : Int) → J i st h → WP P cfg b st h (ForK c n J i Q)) : WP P cfg (.loop b) st h Q := by
  refine WP_loopK (fun m st h => ∃ i : Nat, m = n - i ∧ s ≤ i ∧ i ≤ n ∧ st c = I (i : Int) ∧ J i st h) (n - s) ⟨s, rfl, Nat.le_refl _, hs, h0, hJ⟩ ?_
  rintro m st h ⟨i, rfl, hsi, hi, hc, hj⟩
  refine WP_mono (step i st h hsi hi hc hj) fun x s' g hx => ?_
  cases x with
  | normal =>
    obtain ⟨h1, h2, h3⟩ := hx
    exact ⟨n - (i + 1), by omega, i + 1, rfl, by omega, by omega, by rw [h2]; rfl, h3⟩
  | exit j => exact hx
  | _ => exact hx

@[go_sem] theorem und113 : Try.prog.underlying 113 = some (.slice 4) := Try.underlying113
@[go_sem] theorem flat_bool (bs : List Bool) (k : Nat) (hk : k < bs.length) : (bs.flatMap (e1 AV.bool))[k]? = some (.bool (nth bs k)) := by
  have e : bs.flatMap (e1 AV.bool) = bs.map AV.bool := by
    clear hk
    induction bs with
    | nil => rfl
    | cons b bs ih => simp [e1, ih]
  rw [e, List.getElem?_map, List.getElem?_eq_getElem hk, nth_getElem hk]; rfl
/-- What the array of a search for descendants holds. -/
structure Seen (P : List (List Int)) (v : Nat) (bs : List Bool) (i : Nat) : Prop where
  len : bs.length = P.length
  lo : ∀ k, k ≤ v → nth bs k = false
  hi : ∀ k, v < k → k < i → nth bs k = (List.range (nth P k).length).any fun j => decide (nth (nth P k) j = (v : Int)) || nth bs (nth (nth P k) j).toNat
  out : ∀ k, i ≤ k → nth bs k = false

theorem f45_con (P T : List (List Int)) (N : Net P T) (v w : Nat) (hv : v < P.length) (hw : w < P.length) : ∃ bs, Seen P v bs P.length ∧ Con Try.prog cfg 45 [.agg [LLI P, LLI T], I v, I w] (.bool (nth bs w)) := by
  have hn1 := N.n1
  suffices hh : ∃ r, Con Try.prog cfg 45 [.agg [LLI P, LLI T], I v, I w] r ∧ ∃ bs, Seen P v bs P.length ∧ r = .bool (nth bs w) by
    obtain ⟨r, hc, bs, hs, rfl⟩ := hh
    exact ⟨bs, hs, hc⟩
  refine Con_introE Try.func45 rfl ok45 (Nat.le_of_ble_eq_true rfl) rfl ?_
  simp only [Try.f45, Option.getD_some, initSt3]
  have hmk := fun h => makeB_bool (P := Try.prog) (h := h) 4 (P.length : Int) isz4 ibytes4 izero4 (by omega) (by omega)
  simp (disch := first | (simp only [go_sem, Bool.and_self, eq_self]; done) | omega | (simp only [List.length_cons, List.length_nil]; omega)) only [go_sem, ↓reduceIte, Nat.reduceEqDiff, Nat.reduceAdd, Nat.reduceMul, Nat.reduceSub, Int.reduceToNat, Nat.reduceBEq, List.size_toArray, List.length_cons, List.length_nil, Bool.false_and, Bool.true_and, Bool.or_false, Bool.false_or, Bool.and_false, Bool.and_true, hmk, Int.toNat_natCast]
  refine WP_cut (fun st h => st 1 = I v ∧ st 2 = I w ∧ st 3 = .ptr 0 0 ∧ st 7 = .sl 1 0 P.length 1 ∧ ∃ bs, Seen P v bs P.length ∧ h.bl 1 = some (.cells false true (bs.flatMap (e1 AV.bool)))) ?_ ?_
  · refine WP_from 8 P.length (v + 1) (fun i st h => st 1 = I v ∧ st 2 = I w ∧ st 3 = .ptr 0 0 ∧ st 7 = .sl 1 0 P.length 1 ∧ h.bl 0 = some (.cells false false [LLI P, LLI T]) ∧ ∃ bs, Seen P v bs i ∧ h.bl 1 = some (.cells false true (bs.flatMap (e1 AV.bool)))) (by omega) (by simp (disch := first | (simp only [go_sem, Bool.and_self, eq_self]; done) | omega | (simp only [List.length_cons, List.length_nil]; omega)) only [go_sem, ↓reduceIte, Nat.reduceEqDiff, Nat.reduceAdd, Nat.reduceMul, Nat.reduceSub, Int.reduceToNat, Nat.reduceBEq, List.size_toArray, List.length_cons, List.length_nil, Bool.false_and, Bool.true_and, Bool.or_false, Bool.false_or, Bool.and_false, Bool.and_true]; rfl) ⟨by simp (disch := first | (simp only [go_sem, Bool.and_self, eq_self]; done) | omega | (simp only [List.length_cons, List.length_nil]; omega)) only [go_sem, ↓reduceIte, Nat.reduceEqDiff, Nat.reduceAdd, Nat.reduceMul, Nat.reduceSub, Int.reduceToNat, Nat.reduceBEq, List.size_toArray, List.length_cons, List.length_nil, Bool.false_and, Bool.true_and, Bool.or_false, Bool.false_or, Bool.and_false, Bool.and_true], by simp (disch := first | (simp only [go_sem, Bool.and_self, eq_self]; done) | omega | (simp only [List.length_cons, List.length_nil]; omega)) only [go_sem, ↓reduceIte, Nat.reduceEqDiff, Nat.reduceAdd, Nat.reduceMul, Nat.reduceSub, Int.reduceToNat, Nat.reduceBEq, List.size_toArray, List.length_cons, List.length_nil, Bool.false_and, Bool.true_and, Bool.or_false, Bool.false_or, Bool.and_false, Bool.and_true], by simp (disch := first | (simp only [go_sem, Bool.and_self, eq_self]; done) | omega | (simp only [List.length_cons, List.length_nil]; omega)) only [go_sem, ↓reduceIte, Nat.reduceEqDiff, Nat.reduceAdd, Nat.reduceMul, Nat.reduceSub, Int.reduceToNat, Nat.reduceBEq, List.size_toArray, List.length_cons, List.length_nil, Bool.false_and, Bool.true_and, Bool.or_false, Bool.false_or, Bool.and_false, Bool.and_true], by simp (disch := first | (simp only [go_sem, Bool.and_self, eq_self]; done) | omega | (simp only [List.length_cons, List.length_nil]; omega)) only [go_sem, ↓reduceIte, Nat.reduceEqDiff, Nat.reduceAdd, Nat.reduceMul, Nat.reduceSub, Int.reduceToNat, Nat.reduceBEq, List.size_toArray, List.length_cons, List.length_nil, Bool.false_and, Bool.true_and, Bool.or_false, Bool.false_or, Bool.and_false, Bool.and_true], by simp (disch := first | (simp only [go_sem, Bool.and_self, eq_self]; done) | omega | (simp only [List.length_cons, List.length_nil]; omega)) only [go_sem, ↓reduceIte, Nat.reduceEqDiff, Nat.reduceAdd, Nat.reduceMul, Nat.reduceSub, Int.reduceToNat, Nat.reduceBEq, List.size_toArray, List.length_cons, List.length_nil, Bool.false_and, Bool.true_and, Bool.or_false, Bool.false_or, Bool.and_false, Bool.and_true], List.replicate P.length false, ⟨by simp, fun k hk => ?_, by omega, fun k hk => ?_⟩, by simp (disch := first | (simp only [go_sem, Bool.and_self, eq_self]; done) | omega | (simp only [List.length_cons, List.length_nil]; omega)) only [go_sem, ↓reduceIte, Nat.reduceEqDiff, Nat.reduceAdd, Nat.reduceMul, Nat.reduceSub, Int.reduceToNat, Nat.reduceBEq, List.size_toArray, List.length_cons, List.length_nil, Bool.false_and, Bool.true_and, Bool.or_false, Bool.false_or, Bool.and_false, Bool.and_true]⟩ ?_
    · unfold nth; rw [List.getElem?_replicate]; split <;> rfl
    · unfold nth; rw [List.getElem?_replicate]; split <;> rfl
    rintro i st h hvi hi s8 ⟨s1, s2, s3, s7, b0, bs, S, b1⟩
    by_cases hlt : i < P.length
    case neg =>
      have hii : i = P.length := by omega
      rw [hii] at S
      simp (disch := first | (simp only [go_sem, Bool.and_self, eq_self]; done) | omega | (simp only [List.length_cons, List.length_nil]; omega)) only [go_sem, ↓reduceIte, Nat.reduceEqDiff, Nat.reduceAdd, Nat.reduceMul, Nat.reduceSub, Int.reduceToNat, Nat.reduceBEq, List.size_toArray, List.length_cons, List.length_nil, Bool.false_and, Bool.true_and, Bool.or_false, Bool.false_or, Bool.and_false, Bool.and_true, s1, s2, s3, s7, s8, b0, hlt]
      exact ⟨bs, S, b1⟩
    simp (disch := first | (simp only [go_sem, Bool.and_self, eq_self]; done) | omega | (simp only [List.length_cons, List.length_nil]; omega)) only [go_sem, ↓reduceIte, Nat.reduceEqDiff, Nat.reduceAdd, Nat.reduceMul, Nat.reduceSub, Int.reduceToNat, Nat.reduceBEq, List.size_toArray, List.length_cons, List.length_nil, Bool.false_and, Bool.true_and, Bool.or_false, Bool.false_or, Bool.and_false, Bool.and_true, s1, s2, s3, s7, s8, b0, hlt]
    refine WP_cut (fun st h => st 1 = I v ∧ st 2 = I w ∧ st 3 = .ptr 0 0 ∧ st 7 = .sl 1 0 P.length 1 ∧ st 8 = I i ∧ h.bl 0 = some (.cells false false [LLI P, LLI T]) ∧ ∃ bs, Seen P v bs (i + 1) ∧ h.bl 1 = some (.cells false true (bs.flatMap (e1 AV.bool)))) ?_ ?_
    · refine WP_for 9 (nth P i).length (fun j st h => st 1 = I v ∧ st 2 = I w ∧ st 3 = .ptr 0 0 ∧ st 7 = .sl 1 0 P.length 1 ∧ st 8 = I i ∧ h.bl 0 = some (.cells false false [LLI P, LLI T]) ∧ ∃ cs : List Bool, cs.length = P.length ∧ (∀ k, k ≠ i → nth cs k = nth bs k) ∧ nth cs i = (List.range j).any (fun j => decide (nth (nth P i) j = (v : Int)) || nth bs (nth (nth P i) j).toNat) ∧ h.bl 1 = some (.cells false true (cs.flatMap (e1 AV.bool)))) (by simp (disch := first | (simp only [go_sem, Bool.and_self, eq_self]; done) | omega | (simp only [List.length_cons, List.length_nil]; omega)) only [go_sem, ↓reduceIte, Nat.reduceEqDiff, Nat.reduceAdd, Nat.reduceMul, Nat.reduceSub, Int.reduceToNat, Nat.reduceBEq, List.size_toArray, List.length_cons, List.length_nil, Bool.false_and, Bool.true_and, Bool.or_false, Bool.false_or, Bool.and_false, Bool.and_true]) ⟨by simp (disch := first | (simp only [go_sem, Bool.and_self, eq_self]; done) | omega | (simp only [List.length_cons, List.length_nil]; omega)) only [go_sem, ↓reduceIte, Nat.reduceEqDiff, Nat.reduceAdd, Nat.reduceMul, Nat.reduceSub, Int.reduceToNat, Nat.reduceBEq, List.size_toArray, List.length_cons, List.length_nil, Bool.false_and, Bool.true_and, Bool.or_false, Bool.false_or, Bool.and_false, Bool.and_true, s1, s2, s3, s7], by simp (disch := first | (simp only [go_sem, Bool.and_self, eq_self]; done) | omega | (simp only [List.length_cons, List.length_nil]; omega)) only [go_sem, ↓reduceIte, Nat.reduceEqDiff, Nat.reduceAdd, Nat.reduceMul, Nat.reduceSub, Int.reduceToNat, Nat.reduceBEq, List.size_toArray, List.length_cons, List.length_nil, Bool.false_and, Bool.true_and, Bool.or_false, Bool.false_or, Bool.and_false, Bool.and_true, s1, s2, s3, s7], by simp (disch := first | (simp only [go_sem, Bool.and_self, eq_self]; done) | omega | (simp only [List.length_cons, List.length_nil]; omega)) only [go_sem, ↓reduceIte, Nat.reduceEqDiff, Nat.reduceAdd, Nat.reduceMul, Nat.reduceSub, Int.reduceToNat, Nat.reduceBEq, List.size_toArray, List.length_cons, List.length_nil, Bool.false_and, Bool.true_and, Bool.or_false, Bool.false_or, Bool.and_false, Bool.and_true, s1, s2, s3, s7], by simp (disch := first | (simp only [go_sem, Bool.and_self, eq_self]; done) | omega | (simp only [List.length_cons, List.length_nil]; omega)) only [go_sem, ↓reduceIte, Nat.reduceEqDiff, Nat.reduceAdd, Nat.reduceMul, Nat.reduceSub, Int.reduceToNat, Nat.reduceBEq, List.size_toArray, List.length_cons, List.length_nil, Bool.false_and, Bool.true_and, Bool.or_false, Bool.false_or, Bool.and_false, Bool.and_true, s1, s2, s3, s7], by simp (disch := first | (simp only [go_sem, Bool.and_self, eq_self]; done) | omega | (simp only [List.length_cons, List.length_nil]; omega)) only [go_sem, ↓reduceIte, Nat.reduceEqDiff, Nat.reduceAdd, Nat.reduceMul, Nat.reduceSub, Int.reduceToNat, Nat.reduceBEq, List.size_toArray, List.length_cons, List.length_nil, Bool.false_and, Bool.true_and, Bool.or_false, Bool.false_or, Bool.and_false, Bool.and_true, s8], b0, bs, S.len, fun _ _ => rfl, by rw [S.out i (Nat.le_refl _)]; rfl, b1⟩ ?_
      rintro j st h hj s9 ⟨s1, s2, s3, s7, s8, b0, cs, hcl, hce, hci, b1⟩
      by_cases hjl : j < (nth P i).length
      case neg =>
        have hjj : j = (nth P i).length := by omega
        simp (disch := first | (simp only [go_sem, Bool.and_self, eq_self]; done) | omega | (simp only [List.length_cons, List.length_nil]; omega)) only [go_sem, ↓reduceIte, Nat.reduceEqDiff, Nat.reduceAdd, Nat.reduceMul, Nat.reduceSub, Int.reduceToNat, Nat.reduceBEq, List.size_toArray, List.length_cons, List.length_nil, Bool.false_and, Bool.true_and, Bool.or_false, Bool.false_or, Bool.and_false, Bool.and_true, s1, s2, s3, s7, s8, s9, b0, hlt, hjl]
        refine ⟨cs, ⟨hcl, fun k hk => by rw [hce k (by omega)]; exact S.lo k hk, fun k hk hk2 => ?_, fun k hk => by rw [hce k (by omega)]; exact S.out k (by omega)⟩, b1⟩
        have agree : ∀ k, k < P.length → ∀ j, j < (nth P k).length → k ≤ i → nth cs (nth (nth P k) j).toNat = nth bs (nth (nth P k) j).toNat := fun k hk j hj hki => by
          obtain ⟨p0, p1⟩ := N.par k j hk hj
          exact hce _ (by omega)
        have e : ∀ k, k ≤ i → ((List.range (nth P k).length).any fun j => decide (nth (nth P k) j = (v : Int)) || nth cs (nth (nth P k) j).toNat) = ((List.range (nth P k).length).any fun j => decide (nth (nth P k) j = (v : Int)) || nth bs (nth (nth P k) j).toNat) := fun k hki => by
          rw [Bool.eq_iff_iff, List.any_eq_true, List.any_eq_true]
          constructor
          · rintro ⟨j, hj, h⟩
            rw [agree k (by omega) j (by simpa using hj) hki] at h
            exact ⟨j, hj, h⟩
          · rintro ⟨j, hj, h⟩
            rw [← agree k (by omega) j (by simpa using hj) hki] at h
            exact ⟨j, hj, h⟩
        rw [e k (by omega)]
        by_cases hki : k = i
        · subst hki; rw [hci, hjj]
        · rw [hce k hki]; exact S.hi k hk (by omega)
      obtain ⟨p0, p1⟩ := N.par i j hlt hjl
      have hpl3 := N.pl i hlt
      have hic : i < cs.length := by omega
      have hpc : (nth (nth P i) j) < cs.length := by omega
      have hpe := hce (nth (nth P i) j).toNat (by omega)
      have fin : ∀ b : Bool, b = (nth cs i || (decide (nth (nth P i) j = (v : Int)) || nth bs (nth (nth P i) j).toNat)) → (cs.set i b).length = P.length ∧ (∀ k, k ≠ i → nth (cs.set i b) k = nth bs k) ∧ nth (cs.set i b) i = (List.range (j + 1)).any (fun j => decide (nth (nth P i) j = (v : Int)) || nth bs (nth (nth P i) j).toNat) := fun b hb => by
        refine ⟨by simpa using hcl, fun k hk => by rw [nth_set _ _ _ _ hic, if_neg (fun h => hk h.symm)]; exact hce k hk, ?_⟩
        rw [nth_set _ _ _ _ hic, if_pos rfl, hb, hci, List.range_succ, List.any_append]
        simp
      cases h1 : nth cs i with
      | true =>
        have f := fin true (by rw [h1]; rfl)
        simp (disch := first | (simp only [go_sem, Bool.and_self, eq_self]; done) | omega | (simp only [List.length_cons, List.length_nil]; omega)) only [go_sem, ↓reduceIte, Nat.reduceEqDiff, Nat.reduceAdd, Nat.reduceMul, Nat.reduceSub, Int.reduceToNat, Nat.reduceBEq, List.size_toArray, List.length_cons, List.length_nil, Bool.false_and, Bool.true_and, Bool.or_false, Bool.false_or, Bool.and_false, Bool.and_true, s1, s2, s3, s7, s8, s9, b0, b1, hlt, hjl, hic, h1]
        rw [ForK_normal]
        exact ⟨hjl, by simp (disch := first | (simp only [go_sem, Bool.and_self, eq_self]; done) | omega | (simp only [List.length_cons, List.length_nil]; omega)) only [go_sem, ↓reduceIte, Nat.reduceEqDiff, Nat.reduceAdd, Nat.reduceMul, Nat.reduceSub, Int.reduceToNat, Nat.reduceBEq, List.size_toArray, List.length_cons, List.length_nil, Bool.false_and, Bool.true_and, Bool.or_false, Bool.false_or, Bool.and_false, Bool.and_true, s9], by simp (disch := first | (simp only [go_sem, Bool.and_self, eq_self]; done) | omega | (simp only [List.length_cons, List.length_nil]; omega)) only [go_sem, ↓reduceIte, Nat.reduceEqDiff, Nat.reduceAdd, Nat.reduceMul, Nat.reduceSub, Int.reduceToNat, Nat.reduceBEq, List.size_toArray, List.length_cons, List.length_nil, Bool.false_and, Bool.true_and, Bool.or_false, Bool.false_or, Bool.and_false, Bool.and_true, s1], by simp (disch := first | (simp only [go_sem, Bool.and_self, eq_self]; done) | omega | (simp only [List.length_cons, List.length_nil]; omega)) only [go_sem, ↓reduceIte, Nat.reduceEqDiff, Nat.reduceAdd, Nat.reduceMul, Nat.reduceSub, Int.reduceToNat, Nat.reduceBEq, List.size_toArray, List.length_cons, List.length_nil, Bool.false_and, Bool.true_and, Bool.or_false, Bool.false_or, Bool.and_false, Bool.and_true, s2], by simp (disch := first | (simp only [go_sem, Bool.and_self, eq_self]; done) | omega | (simp only [List.length_cons, List.length_nil]; omega)) only [go_sem, ↓reduceIte, Nat.reduceEqDiff, Nat.reduceAdd, Nat.reduceMul, Nat.reduceSub, Int.reduceToNat, Nat.reduceBEq, List.size_toArray, List.length_cons, List.length_nil, Bool.false_and, Bool.true_and, Bool.or_false, Bool.false_or, Bool.and_false, Bool.and_true, s3], by simp (disch := first | (simp only [go_sem, Bool.and_self, eq_self]; done) | omega | (simp only [List.length_cons, List.length_nil]; omega)) only [go_sem, ↓reduceIte, Nat.reduceEqDiff, Nat.reduceAdd, Nat.reduceMul, Nat.reduceSub, Int.reduceToNat, Nat.reduceBEq, List.size_toArray, List.length_cons, List.length_nil, Bool.false_and, Bool.true_and, Bool.or_false, Bool.false_or, Bool.and_false, Bool.and_true, s7], by simp (disch := first | (simp only [go_sem, Bool.and_self, eq_self]; done) | omega | (simp only [List.length_cons, List.length_nil]; omega)) only [go_sem, ↓reduceIte, Nat.reduceEqDiff, Nat.reduceAdd, Nat.reduceMul, Nat.reduceSub, Int.reduceToNat, Nat.reduceBEq, List.size_toArray, List.length_cons, List.length_nil, Bool.false_and, Bool.true_and, Bool.or_false, Bool.false_or, Bool.and_false, Bool.and_true, s8], by simp (disch := first | (simp only [go_sem, Bool.and_self, eq_self]; done) | omega | (simp only [List.length_cons, List.length_nil]; omega)) only [go_sem, ↓reduceIte, Nat.reduceEqDiff, Nat.reduceAdd, Nat.reduceMul, Nat.reduceSub, Int.reduceToNat, Nat.reduceBEq, List.size_toArray, List.length_cons, List.length_nil, Bool.false_and, Bool.true_and, Bool.or_false, Bool.false_or, Bool.and_false, Bool.and_true, b0], _, f.1, f.2.1, f.2.2, by simp (disch := first | (simp only [go_sem, Bool.and_self, eq_self]; done) | omega | (simp only [List.length_cons, List.length_nil]; omega)) only [go_sem, ↓reduceIte, Nat.reduceEqDiff, Nat.reduceAdd, Nat.reduceMul, Nat.reduceSub, Int.reduceToNat, Nat.reduceBEq, List.size_toArray, List.length_cons, List.length_nil, Bool.false_and, Bool.true_and, Bool.or_false, Bool.false_or, Bool.and_false, Bool.and_true]⟩
      | false =>
      by_cases h2 : nth (nth P i) j = (v : Int)
      · have f := fin true (by rw [h1, decide_eq_true h2]; rfl)
        simp (disch := first | (simp only [go_sem, Bool.and_self, eq_self]; done) | omega | (simp only [List.length_cons, List.length_nil]; omega)) only [go_sem, ↓reduceIte, Nat.reduceEqDiff, Nat.reduceAdd, Nat.reduceMul, Nat.reduceSub, Int.reduceToNat, Nat.reduceBEq, List.size_toArray, List.length_cons, List.length_nil, Bool.false_and, Bool.true_and, Bool.or_false, Bool.false_or, Bool.and_false, Bool.and_true, s1, s2, s3, s7, s8, s9, b0, b1, hlt, hjl, hic, h1, h2]
        rw [ForK_normal]
        exact ⟨hjl, by simp (disch := first | (simp only [go_sem, Bool.and_self, eq_self]; done) | omega | (simp only [List.length_cons, List.length_nil]; omega)) only [go_sem, ↓reduceIte, Nat.reduceEqDiff, Nat.reduceAdd, Nat.reduceMul, Nat.reduceSub, Int.reduceToNat, Nat.reduceBEq, List.size_toArray, List.length_cons, List.length_nil, Bool.false_and, Bool.true_and, Bool.or_false, Bool.false_or, Bool.and_false, Bool.and_true, s9], by simp (disch := first | (simp only [go_sem, Bool.and_self, eq_self]; done) | omega | (simp only [List.length_cons, List.length_nil]; omega)) only [go_sem, ↓reduceIte, Nat.reduceEqDiff, Nat.reduceAdd, Nat.reduceMul, Nat.reduceSub, Int.reduceToNat, Nat.reduceBEq, List.size_toArray, List.length_cons, List.length_nil, Bool.false_and, Bool.true_and, Bool.or_false, Bool.false_or, Bool.and_false, Bool.and_true, s1], by simp (disch := first | (simp only [go_sem, Bool.and_self, eq_self]; done) | omega | (simp only [List.length_cons, List.length_nil]; omega)) only [go_sem, ↓reduceIte, Nat.reduceEqDiff, Nat.reduceAdd, Nat.reduceMul, Nat.reduceSub, Int.reduceToNat, Nat.reduceBEq, List.size_toArray, List.length_cons, List.length_nil, Bool.false_and, Bool.true_and, Bool.or_false, Bool.false_or, Bool.and_false, Bool.and_true, s2], by simp (disch := first | (simp only [go_sem, Bool.and_self, eq_self]; done) | omega | (simp only [List.length_cons, List.length_nil]; omega)) only [go_sem, ↓reduceIte, Nat.reduceEqDiff, Nat.reduceAdd, Nat.reduceMul, Nat.reduceSub, Int.reduceToNat, Nat.reduceBEq, List.size_toArray, List.length_cons, List.length_nil, Bool.false_and, Bool.true_and, Bool.or_false, Bool.false_or, Bool.and_false, Bool.and_true, s3], by simp (disch := first | (simp only [go_sem, Bool.and_self, eq_self]; done) | omega | (simp only [List.length_cons, List.length_nil]; omega)) only [go_sem, ↓reduceIte, Nat.reduceEqDiff, Nat.reduceAdd, Nat.reduceMul, Nat.reduceSub, Int.reduceToNat, Nat.reduceBEq, List.size_toArray, List.length_cons, List.length_nil, Bool.false_and, Bool.true_and, Bool.or_false, Bool.false_or, Bool.and_false, Bool.and_true, s7], by simp (disch := first | (simp only [go_sem, Bool.and_self, eq_self]; done) | omega | (simp only [List.length_cons, List.length_nil]; omega)) only [go_sem, ↓reduceIte, Nat.reduceEqDiff, Nat.reduceAdd, Nat.reduceMul, Nat.reduceSub, Int.reduceToNat, Nat.reduceBEq, List.size_toArray, List.length_cons, List.length_nil, Bool.false_and, Bool.true_and, Bool.or_false, Bool.false_or, Bool.and_false, Bool.and_true, s8], by simp (disch := first | (simp only [go_sem, Bool.and_self, eq_self]; done) | omega | (simp only [List.length_cons, List.length_nil]; omega)) only [go_sem, ↓reduceIte, Nat.reduceEqDiff, Nat.reduceAdd, Nat.reduceMul, Nat.reduceSub, Int.reduceToNat, Nat.reduceBEq, List.size_toArray, List.length_cons, List.length_nil, Bool.false_and, Bool.true_and, Bool.or_false, Bool.false_or, Bool.and_false, Bool.and_true, b0], _, f.1, f.2.1, f.2.2, by simp (disch := first | (simp only [go_sem, Bool.and_self, eq_self]; done) | omega | (simp only [List.length_cons, List.length_nil]; omega)) only [go_sem, ↓reduceIte, Nat.reduceEqDiff, Nat.reduceAdd, Nat.reduceMul, Nat.reduceSub, Int.reduceToNat, Nat.reduceBEq, List.size_toArray, List.length_cons, List.length_nil, Bool.false_and, Bool.true_and, Bool.or_false, Bool.false_or, Bool.and_false, Bool.and_true]⟩
      · have f := fin (nth bs (nth (nth P i) j).toNat) (by rw [h1, decide_eq_false h2]; rfl)
        simp (disch := first | (simp only [go_sem, Bool.and_self, eq_self]; done) | omega | (simp only [List.length_cons, List.length_nil]; omega)) only [go_sem, ↓reduceIte, Nat.reduceEqDiff, Nat.reduceAdd, Nat.reduceMul, Nat.reduceSub, Int.reduceToNat, Nat.reduceBEq, List.size_toArray, List.length_cons, List.length_nil, Bool.false_and, Bool.true_and, Bool.or_false, Bool.false_or, Bool.and_false, Bool.and_true, s1, s2, s3, s7, s8, s9, b0, b1, hlt, hjl, hic, h1, h2, hpc, p0, hpe]
        rw [ForK_normal]
        exact ⟨hjl, by simp (disch := first | (simp only [go_sem, Bool.and_self, eq_self]; done) | omega | (simp only [List.length_cons, List.length_nil]; omega)) only [go_sem, ↓reduceIte, Nat.reduceEqDiff, Nat.reduceAdd, Nat.reduceMul, Nat.reduceSub, Int.reduceToNat, Nat.reduceBEq, List.size_toArray, List.length_cons, List.length_nil, Bool.false_and, Bool.true_and, Bool.or_false, Bool.false_or, Bool.and_false, Bool.and_true, s9], by simp (disch := first | (simp only [go_sem, Bool.and_self, eq_self]; done) | omega | (simp only [List.length_cons, List.length_nil]; omega)) only [go_sem, ↓reduceIte, Nat.reduceEqDiff, Nat.reduceAdd, Nat.reduceMul, Nat.reduceSub, Int.reduceToNat, Nat.reduceBEq, List.size_toArray, List.length_cons, List.length_nil, Bool.false_and, Bool.true_and, Bool.or_false, Bool.false_or, Bool.and_false, Bool.and_true, s1], by simp (disch := first | (simp only [go_sem, Bool.and_self, eq_self]; done) | omega | (simp only [List.length_cons, List.length_nil]; omega)) only [go_sem, ↓reduceIte, Nat.reduceEqDiff, Nat.reduceAdd, Nat.reduceMul, Nat.reduceSub, Int.reduceToNat, Nat.reduceBEq, List.size_toArray, List.length_cons, List.length_nil, Bool.false_and, Bool.true_and, Bool.or_false, Bool.false_or, Bool.and_false, Bool.and_true, s2], by simp (disch := first | (simp only [go_sem, Bool.and_self, eq_self]; done) | omega | (simp only [List.length_cons, List.length_nil]; omega)) only [go_sem, ↓reduceIte, Nat.reduceEqDiff, Nat.reduceAdd, Nat.reduceMul, Nat.reduceSub, Int.reduceToNat, Nat.reduceBEq, List.size_toArray, List.length_cons, List.length_nil, Bool.false_and, Bool.true_and, Bool.or_false, Bool.false_or, Bool.and_false, Bool.and_true, s3], by simp (disch := first | (simp only [go_sem, Bool.and_self, eq_self]; done) | omega | (simp only [List.length_cons, List.length_nil]; omega)) only [go_sem, ↓reduceIte, Nat.reduceEqDiff, Nat.reduceAdd, Nat.reduceMul, Nat.reduceSub, Int.reduceToNat, Nat.reduceBEq, List.size_toArray, List.length_cons, List.length_nil, Bool.false_and, Bool.true_and, Bool.or_false, Bool.false_or, Bool.and_false, Bool.and_true, s7], by simp (disch := first | (simp only [go_sem, Bool.and_self, eq_self]; done) | omega | (simp only [List.length_cons, List.length_nil]; omega)) only [go_sem, ↓reduceIte, Nat.reduceEqDiff, Nat.reduceAdd, Nat.reduceMul, Nat.reduceSub, Int.reduceToNat, Nat.reduceBEq, List.size_toArray, List.length_cons, List.length_nil, Bool.false_and, Bool.true_and, Bool.or_false, Bool.false_or, Bool.and_false, Bool.and_true, s8], by simp (disch := first | (simp only [go_sem, Bool.and_self, eq_self]; done) | omega | (simp only [List.length_cons, List.length_nil]; omega)) only [go_sem, ↓reduceIte, Nat.reduceEqDiff, Nat.reduceAdd, Nat.reduceMul, Nat.reduceSub, Int.reduceToNat, Nat.reduceBEq, List.size_toArray, List.length_cons, List.length_nil, Bool.false_and, Bool.true_and, Bool.or_false, Bool.false_or, Bool.and_false, Bool.and_true, b0], _, f.1, f.2.1, f.2.2, by simp (disch := first | (simp only [go_sem, Bool.and_self, eq_self]; done) | omega | (simp only [List.length_cons, List.length_nil]; omega)) only [go_sem, ↓reduceIte, Nat.reduceEqDiff, Nat.reduceAdd, Nat.reduceMul, Nat.reduceSub, Int.reduceToNat, Nat.reduceBEq, List.size_toArray, List.length_cons, List.length_nil, Bool.false_and, Bool.true_and, Bool.or_false, Bool.false_or, Bool.and_false, Bool.and_true]⟩
    rintro st h ⟨s1, s2, s3, s7, s8, b0, bs, S, b1⟩
    simp (disch := first | (simp only [go_sem, Bool.and_self, eq_self]; done) | omega | (simp only [List.length_cons, List.length_nil]; omega)) only [go_sem, ↓reduceIte, Nat.reduceEqDiff, Nat.reduceAdd, Nat.reduceMul, Nat.reduceSub, Int.reduceToNat, Nat.reduceBEq, List.size_toArray, List.length_cons, List.length_nil, Bool.false_and, Bool.true_and, Bool.or_false, Bool.false_or, Bool.and_false, Bool.and_true, s1, s2, s3, s7, s8]
    rw [ForK_normal]
    exact ⟨hlt, by simp (disch := first | (simp only [go_sem, Bool.and_self, eq_self]; done) | omega | (simp only [List.length_cons, List.length_nil]; omega)) only [go_sem, ↓reduceIte, Nat.reduceEqDiff, Nat.reduceAdd, Nat.reduceMul, Nat.reduceSub, Int.reduceToNat, Nat.reduceBEq, List.size_toArray, List.length_cons, List.length_nil, Bool.false_and, Bool.true_and, Bool.or_false, Bool.false_or, Bool.and_false, Bool.and_true, s8], by simp (disch := first | (simp only [go_sem, Bool.and_self, eq_self]; done) | omega | (simp only [List.length_cons, List.length_nil]; omega)) only [go_sem, ↓reduceIte, Nat.reduceEqDiff, Nat.reduceAdd, Nat.reduceMul, Nat.reduceSub, Int.reduceToNat, Nat.reduceBEq, List.size_toArray, List.length_cons, List.length_nil, Bool.false_and, Bool.true_and, Bool.or_false, Bool.false_or, Bool.and_false, Bool.and_true, s1], by simp (disch := first | (simp only [go_sem, Bool.and_self, eq_self]; done) | omega | (simp only [List.length_cons, List.length_nil]; omega)) only [go_sem, ↓reduceIte, Nat.reduceEqDiff, Nat.reduceAdd, Nat.reduceMul, Nat.reduceSub, Int.reduceToNat, Nat.reduceBEq, List.size_toArray, List.length_cons, List.length_nil, Bool.false_and, Bool.true_and, Bool.or_false, Bool.false_or, Bool.and_false, Bool.and_true, s2], by simp (disch := first | (simp only [go_sem, Bool.and_self, eq_self]; done) | omega | (simp only [List.length_cons, List.length_nil]; omega)) only [go_sem, ↓reduceIte, Nat.reduceEqDiff, Nat.reduceAdd, Nat.reduceMul, Nat.reduceSub, Int.reduceToNat, Nat.reduceBEq, List.size_toArray, List.length_cons, List.length_nil, Bool.false_and, Bool.true_and, Bool.or_false, Bool.false_or, Bool.and_false, Bool.and_true, s3], by simp (disch := first | (simp only [go_sem, Bool.and_self, eq_self]; done) | omega | (simp only [List.length_cons, List.length_nil]; omega)) only [go_sem, ↓reduceIte, Nat.reduceEqDiff, Nat.reduceAdd, Nat.reduceMul, Nat.reduceSub, Int.reduceToNat, Nat.reduceBEq, List.size_toArray, List.length_cons, List.length_nil, Bool.false_and, Bool.true_and, Bool.or_false, Bool.false_or, Bool.and_false, Bool.and_true, s7], by simp (disch := first | (simp only [go_sem, Bool.and_self, eq_self]; done) | omega | (simp only [List.length_cons, List.length_nil]; omega)) only [go_sem, ↓reduceIte, Nat.reduceEqDiff, Nat.reduceAdd, Nat.reduceMul, Nat.reduceSub, Int.reduceToNat, Nat.reduceBEq, List.size_toArray, List.length_cons, List.length_nil, Bool.false_and, Bool.true_and, Bool.or_false, Bool.false_or, Bool.and_false, Bool.and_true, b0], bs, S, b1⟩
  · rintro st h ⟨s1, s2, s3, s7, bs, S, b1⟩
    have hwl : w < bs.length := by rw [S.len]; exact hw
    simp (disch := first | (simp only [go_sem, Bool.and_self, eq_self]; done) | omega | (simp only [List.length_cons, List.length_nil]; omega)) only [go_sem, ↓reduceIte, Nat.reduceEqDiff, Nat.reduceAdd, Nat.reduceMul, Nat.reduceSub, Int.reduceToNat, Nat.reduceBEq, List.size_toArray, List.length_cons, List.length_nil, Bool.false_and, Bool.true_and, Bool.or_false, Bool.false_or, Bool.and_false, Bool.and_true, s1, s2, s3, s7, b1, hwl]
    exact ⟨_, rfl, bs, S, rfl⟩

end Go.Proofs.Ytpkakapbepkfdaa

set_option linter.unusedVariables false
set_option linter.unusedSimpArgs false
set_option maxRecDepth 10000
namespace Go.Proofs.Ytpkakapbepkfdaa
open Go Go.Am

variable {h h' : Hp} {K : AV → Hp → Prop}

def hasB (xs : List Int) (x : Int) : Bool := decide (x ∈ xs)
theorem hasB_iff {xs : List Int} {x : Int} : hasB xs x = true ↔ ∃ i, i < xs.length ∧ nth xs i = x := by
  simp only [hasB, decide_eq_true_eq]
  constructor
  · intro h
    obtain ⟨i, hi, he⟩ := List.getElem_of_mem h
    exact ⟨i, hi, by rw [nth_getElem hi, he]⟩
  · rintro ⟨i, hi, rfl⟩; exact nth_mem hi
theorem hasB_no {xs : List Int} {x : Int} (h : ∀ i, i < xs.length → nth xs i ≠ x) : hasB xs x = false := by
  rw [Bool.eq_false_iff]; intro h2
  obtain ⟨i, hi, he⟩ := hasB_iff.1 h2
  exact h i hi he

theorem f79_con (xs : List Int) (x : Int) (hl : xs.length ≤ maxLen) : ∃ r, Con Try.prog cfg 79 [LI xs, I x] r ∧ ∃ k : Int, r = I k ∧ decide (0 ≤ k) = hasB xs x := by
  have ml : maxLen = 9223372036854775807 := by decide
  refine Con_introE Try.func79 rfl ok79 (Nat.le_of_ble_eq_true rfl) rfl ?_
  simp only [Try.f79, Option.getD_some, initSt2]
  simp (disch := first | (simp only [go_sem, Bool.and_self, eq_self]; done) | omega | (simp only [List.length_cons, List.length_nil]; omega)) only [go_sem, ↓reduceIte, Nat.reduceEqDiff, Nat.reduceAdd, Nat.reduceMul, Nat.reduceSub, Int.reduceToNat, Nat.reduceBEq, List.size_toArray, List.length_cons, List.length_nil, Bool.false_and, Bool.true_and, Bool.or_false, Bool.false_or, Bool.and_false, Bool.and_true]
  refine WP_cut (fun st h => ∀ i, i < xs.length → nth xs i ≠ x) ?_ ?_
  · refine WP_for 8 xs.length (fun i st h => st 0 = LI xs ∧ st 1 = I x ∧ st 7 = I xs.length ∧ ∀ j, j < i → nth xs j ≠ x) (by simp (disch := first | (simp only [go_sem, Bool.and_self, eq_self]; done) | omega | (simp only [List.length_cons, List.length_nil]; omega)) only [go_sem, ↓reduceIte, Nat.reduceEqDiff, Nat.reduceAdd, Nat.reduceMul, Nat.reduceSub, Int.reduceToNat, Nat.reduceBEq, List.size_toArray, List.length_cons, List.length_nil, Bool.false_and, Bool.true_and, Bool.or_false, Bool.false_or, Bool.and_false, Bool.and_true]) ⟨by simp (disch := first | (simp only [go_sem, Bool.and_self, eq_self]; done) | omega | (simp only [List.length_cons, List.length_nil]; omega)) only [go_sem, ↓reduceIte, Nat.reduceEqDiff, Nat.reduceAdd, Nat.reduceMul, Nat.reduceSub, Int.reduceToNat, Nat.reduceBEq, List.size_toArray, List.length_cons, List.length_nil, Bool.false_and, Bool.true_and, Bool.or_false, Bool.false_or, Bool.and_false, Bool.and_true], by simp (disch := first | (simp only [go_sem, Bool.and_self, eq_self]; done) | omega | (simp only [List.length_cons, List.length_nil]; omega)) only [go_sem, ↓reduceIte, Nat.reduceEqDiff, Nat.reduceAdd, Nat.reduceMul, Nat.reduceSub, Int.reduceToNat, Nat.reduceBEq, List.size_toArray, List.length_cons, List.length_nil, Bool.false_and, Bool.true_and, Bool.or_false, Bool.false_or, Bool.and_false, Bool.and_true], by simp (disch := first | (simp only [go_sem, Bool.and_self, eq_self]; done) | omega | (simp only [List.length_cons, List.length_nil]; omega)) only [go_sem, ↓reduceIte, Nat.reduceEqDiff, Nat.reduceAdd, Nat.reduceMul, Nat.reduceSub, Int.reduceToNat, Nat.reduceBEq, List.size_toArray, List.length_cons, List.length_nil, Bool.false_and, Bool.true_and, Bool.or_false, Bool.false_or, Bool.and_false, Bool.and_true], by omega⟩ ?_
    rintro i st h hi s8 ⟨s0, s1, s7, hg⟩
    by_cases hlt : i < xs.length
    case neg =>
      simp (disch := first | (simp only [go_sem, Bool.and_self, eq_self]; done) | omega | (simp only [List.length_cons, List.length_nil]; omega)) only [go_sem, ↓reduceIte, Nat.reduceEqDiff, Nat.reduceAdd, Nat.reduceMul, Nat.reduceSub, Int.reduceToNat, Nat.reduceBEq, List.size_toArray, List.length_cons, List.length_nil, Bool.false_and, Bool.true_and, Bool.or_false, Bool.false_or, Bool.and_false, Bool.and_true, s0, s1, s7, s8, hlt]
      exact fun j hj => hg j (by omega)
    by_cases he : x = nth xs i
    · have hh : hasB xs x = true := hasB_iff.2 ⟨i, hlt, he.symm⟩
      have he' : decide (x = nth xs i) = true := by simp [he]
      simp (disch := first | (simp only [go_sem, Bool.and_self, eq_self]; done) | omega | (simp only [List.length_cons, List.length_nil]; omega)) only [go_sem, ↓reduceIte, Nat.reduceEqDiff, Nat.reduceAdd, Nat.reduceMul, Nat.reduceSub, Int.reduceToNat, Nat.reduceBEq, List.size_toArray, List.length_cons, List.length_nil, Bool.false_and, Bool.true_and, Bool.or_false, Bool.false_or, Bool.and_false, Bool.and_true, s0, s1, s7, s8, hlt, he']
      exact ⟨_, rfl, i, rfl, by rw [hh]; simp⟩
    · have he' : decide (x = nth xs i) = false := by simp [he]
      simp (disch := first | (simp only [go_sem, Bool.and_self, eq_self]; done) | omega | (simp only [List.length_cons, List.length_nil]; omega)) only [go_sem, ↓reduceIte, Nat.reduceEqDiff, Nat.reduceAdd, Nat.reduceMul, Nat.reduceSub, Int.reduceToNat, Nat.reduceBEq, List.size_toArray, List.length_cons, List.length_nil, Bool.false_and, Bool.true_and, Bool.or_false, Bool.false_or, Bool.and_false, Bool.and_true, s0, s1, s7, s8, hlt, he']
      rw [ForK_normal]
      exact ⟨hlt, by simp (disch := first | (simp only [go_sem, Bool.and_self, eq_self]; done) | omega | (simp only [List.length_cons, List.length_nil]; omega)) only [go_sem, ↓reduceIte, Nat.reduceEqDiff, Nat.reduceAdd, Nat.reduceMul, Nat.reduceSub, Int.reduceToNat, Nat.reduceBEq, List.size_toArray, List.length_cons, List.length_nil, Bool.false_and, Bool.true_and, Bool.or_false, Bool.false_or, Bool.and_false, Bool.and_true, s8], by simp (disch := first | (simp only [go_sem, Bool.and_self, eq_self]; done) | omega | (simp only [List.length_cons, List.length_nil]; omega)) only [go_sem, ↓reduceIte, Nat.reduceEqDiff, Nat.reduceAdd, Nat.reduceMul, Nat.reduceSub, Int.reduceToNat, Nat.reduceBEq, List.size_toArray, List.length_cons, List.length_nil, Bool.false_and, Bool.true_and, Bool.or_false, Bool.false_or, Bool.and_false, Bool.and_true, s0], by simp (disch := first | (simp only [go_sem, Bool.and_self, eq_self]; done) | omega | (simp only [List.length_cons, List.length_nil]; omega)) only [go_sem, ↓reduceIte, Nat.reduceEqDiff, Nat.reduceAdd, Nat.reduceMul, Nat.reduceSub, Int.reduceToNat, Nat.reduceBEq, List.size_toArray, List.length_cons, List.length_nil, Bool.false_and, Bool.true_and, Bool.or_false, Bool.false_or, Bool.and_false, Bool.and_true, s1], by simp (disch := first | (simp only [go_sem, Bool.and_self, eq_self]; done) | omega | (simp only [List.length_cons, List.length_nil]; omega)) only [go_sem, ↓reduceIte, Nat.reduceEqDiff, Nat.reduceAdd, Nat.reduceMul, Nat.reduceSub, Int.reduceToNat, Nat.reduceBEq, List.size_toArray, List.length_cons, List.length_nil, Bool.false_and, Bool.true_and, Bool.or_false, Bool.false_or, Bool.and_false, Bool.and_true, s7], fun j hj => by
        rcases Nat.lt_or_ge j i with h | h
        · exact hg j h
        · rw [show j = i by omega]; exact fun e => he e.symm⟩
  · rintro st h hg
    simp (disch := first | (simp only [go_sem, Bool.and_self, eq_self]; done) | omega | (simp only [List.length_cons, List.length_nil]; omega)) only [go_sem, ↓reduceIte, Nat.reduceEqDiff, Nat.reduceAdd, Nat.reduceMul, Nat.reduceSub, Int.reduceToNat, Nat.reduceBEq, List.size_toArray, List.length_cons, List.length_nil, Bool.false_and, Bool.true_and, Bool.or_false, Bool.false_or, Bool.and_false, Bool.and_true]
    exact ⟨_, rfl, -1, rfl, by rw [hasB_no hg]; rfl⟩
theorem f76_con (xs : List Int) (x : Int) (hl : xs.length ≤ maxLen) : Con Try.prog cfg 76 [LI xs, I x] (.bool (hasB xs x)) := by
  obtain ⟨_, c, k, rfl, hk⟩ := f79_con xs x hl
  have kc := fun h h' K => ConW_num (h := h) (h' := h') (K := K) c rfl
  refine Con_intro Try.func76 rfl ok76 (Nat.le_of_ble_eq_true rfl) rfl ?_
  simp only [Try.f76, Option.getD_some, initSt2]
  simp (disch := first | (simp only [go_sem, Bool.and_self, eq_self]; done) | omega | (simp only [List.length_cons, List.length_nil]; omega)) only [go_sem, ↓reduceIte, Nat.reduceEqDiff, Nat.reduceAdd, Nat.reduceMul, Nat.reduceSub, Int.reduceToNat, Nat.reduceBEq, List.size_toArray, List.length_cons, List.length_nil, Bool.false_and, Bool.true_and, Bool.or_false, Bool.false_or, Bool.and_false, Bool.and_true, kc, hk]
theorem k76 (xs : List Int) (x : Int) (hl : xs.length ≤ maxLen) : ConW Try.prog cfg 76 h (some ([LI xs, I x], h')) K = K (.bool (hasB xs x)) h := ConW_num (f76_con xs x hl) rfl
theorem f60_con (xs : List Int) (x : Int) (hl : xs.length ≤ maxLen) : Con Try.prog cfg 60 [LI xs, I x] (.bool (hasB xs x)) := by
  have ml : maxLen = 9223372036854775807 := by decide
  refine Con_intro Try.func60 rfl ok60 (Nat.le_of_ble_eq_true rfl) rfl ?_
  simp only [Try.f60, Option.getD_some, initSt2]
  simp (disch := first | (simp only [go_sem, Bool.and_self, eq_self]; done) | omega | (simp only [List.length_cons, List.length_nil]; omega)) only [go_sem, ↓reduceIte, Nat.reduceEqDiff, Nat.reduceAdd, Nat.reduceMul, Nat.reduceSub, Int.reduceToNat, Nat.reduceBEq, List.size_toArray, List.length_cons, List.length_nil, Bool.false_and, Bool.true_and, Bool.or_false, Bool.false_or, Bool.and_false, Bool.and_true]
  refine WP_cut (fun st h => ∀ i, i < xs.length → nth xs i ≠ x) ?_ ?_
  · refine WP_for 5 xs.length (fun i st h => st 0 = LI xs ∧ st 1 = I x ∧ ∀ j, j < i → nth xs j ≠ x) (by simp (disch := first | (simp only [go_sem, Bool.and_self, eq_self]; done) | omega | (simp only [List.length_cons, List.length_nil]; omega)) only [go_sem, ↓reduceIte, Nat.reduceEqDiff, Nat.reduceAdd, Nat.reduceMul, Nat.reduceSub, Int.reduceToNat, Nat.reduceBEq, List.size_toArray, List.length_cons, List.length_nil, Bool.false_and, Bool.true_and, Bool.or_false, Bool.false_or, Bool.and_false, Bool.and_true]) ⟨by simp (disch := first | (simp only [go_sem, Bool.and_self, eq_self]; done) | omega | (simp only [List.length_cons, List.length_nil]; omega)) only [go_sem, ↓reduceIte, Nat.reduceEqDiff, Nat.reduceAdd, Nat.reduceMul, Nat.reduceSub, Int.reduceToNat, Nat.reduceBEq, List.size_toArray, List.length_cons, List.length_nil, Bool.false_and, Bool.true_and, Bool.or_false, Bool.false_or, Bool.and_false, Bool.and_true], by simp (disch := first | (simp only [go_sem, Bool.and_self, eq_self]; done) | omega | (simp only [List.length_cons, List.length_nil]; omega)) only [go_sem, ↓reduceIte, Nat.reduceEqDiff, Nat.reduceAdd, Nat.reduceMul, Nat.reduceSub, Int.reduceToNat, Nat.reduceBEq, List.size_toArray, List.length_cons, List.length_nil, Bool.false_and, Bool.true_and, Bool.or_false, Bool.false_or, Bool.and_false, Bool.and_true], by omega⟩ ?_
    rintro i st h hi s5 ⟨s0, s1, hg⟩
    by_cases hlt : i < xs.length
    case neg =>
      simp (disch := first | (simp only [go_sem, Bool.and_self, eq_self]; done) | omega | (simp only [List.length_cons, List.length_nil]; omega)) only [go_sem, ↓reduceIte, Nat.reduceEqDiff, Nat.reduceAdd, Nat.reduceMul, Nat.reduceSub, Int.reduceToNat, Nat.reduceBEq, List.size_toArray, List.length_cons, List.length_nil, Bool.false_and, Bool.true_and, Bool.or_false, Bool.false_or, Bool.and_false, Bool.and_true, s0, s1, s5, hlt]
      exact fun j hj => hg j (by omega)
    by_cases he : nth xs i = x
    · have hh : hasB xs x = true := hasB_iff.2 ⟨i, hlt, he⟩
      have he' : decide (nth xs i = x) = true := by simp [he]
      simp (disch := first | (simp only [go_sem, Bool.and_self, eq_self]; done) | omega | (simp only [List.length_cons, List.length_nil]; omega)) only [go_sem, ↓reduceIte, Nat.reduceEqDiff, Nat.reduceAdd, Nat.reduceMul, Nat.reduceSub, Int.reduceToNat, Nat.reduceBEq, List.size_toArray, List.length_cons, List.length_nil, Bool.false_and, Bool.true_and, Bool.or_false, Bool.false_or, Bool.and_false, Bool.and_true, s0, s1, s5, hlt, he', hh]
    · have he' : decide (nth xs i = x) = false := by simp [he]
      simp (disch := first | (simp only [go_sem, Bool.and_self, eq_self]; done) | omega | (simp only [List.length_cons, List.length_nil]; omega)) only [go_sem, ↓reduceIte, Nat.reduceEqDiff, Nat.reduceAdd, Nat.reduceMul, Nat.reduceSub, Int.reduceToNat, Nat.reduceBEq, List.size_toArray, List.length_cons, List.length_nil, Bool.false_and, Bool.true_and, Bool.or_false, Bool.false_or, Bool.and_false, Bool.and_true, s0, s1, s5, hlt, he']
      rw [ForK_normal]
      exact ⟨hlt, by simp (disch := first | (simp only [go_sem, Bool.and_self, eq_self]; done) | omega | (simp only [List.length_cons, List.length_nil]; omega)) only [go_sem, ↓reduceIte, Nat.reduceEqDiff, Nat.reduceAdd, Nat.reduceMul, Nat.reduceSub, Int.reduceToNat, Nat.reduceBEq, List.size_toArray, List.length_cons, List.length_nil, Bool.false_and, Bool.true_and, Bool.or_false, Bool.false_or, Bool.and_false, Bool.and_true, s5], by simp (disch := first | (simp only [go_sem, Bool.and_self, eq_self]; done) | omega | (simp only [List.length_cons, List.length_nil]; omega)) only [go_sem, ↓reduceIte, Nat.reduceEqDiff, Nat.reduceAdd, Nat.reduceMul, Nat.reduceSub, Int.reduceToNat, Nat.reduceBEq, List.size_toArray, List.length_cons, List.length_nil, Bool.false_and, Bool.true_and, Bool.or_false, Bool.false_or, Bool.and_false, Bool.and_true, s0], by simp (disch := first | (simp only [go_sem, Bool.and_self, eq_self]; done) | omega | (simp only [List.length_cons, List.length_nil]; omega)) only [go_sem, ↓reduceIte, Nat.reduceEqDiff, Nat.reduceAdd, Nat.reduceMul, Nat.reduceSub, Int.reduceToNat, Nat.reduceBEq, List.size_toArray, List.length_cons, List.length_nil, Bool.false_and, Bool.true_and, Bool.or_false, Bool.false_or, Bool.and_false, Bool.and_true, s1], fun j hj => by
        rcases Nat.lt_or_ge j i with h | h
        · exact hg j h
        · rw [show j = i by omega]; exact he⟩
  · rintro st h hg
    simp (disch := first | (simp only [go_sem, Bool.and_self, eq_self]; done) | omega | (simp only [List.length_cons, List.length_nil]; omega)) only [go_sem, ↓reduceIte, Nat.reduceEqDiff, Nat.reduceAdd, Nat.reduceMul, Nat.reduceSub, Int.reduceToNat, Nat.reduceBEq, List.size_toArray, List.length_cons, List.length_nil, Bool.false_and, Bool.true_and, Bool.or_false, Bool.false_or, Bool.and_false, Bool.and_true, hasB_no hg]
theorem k60 (xs : List Int) (x : Int) (hl : xs.length ≤ maxLen) : ConW Try.prog cfg 60 h (some ([LI xs, I x], h')) K = K (.bool (hasB xs x)) h := ConW_num (f60_con xs x hl) rfl

/-! ### Different variables -/
def diffE (n : Int) (l : List Int) (i : Nat) : Bool := !decide (nth l i < 0) && (!decide (n ≤ nth l i) && !hasB (l.take i) (nth l i))
def diffB (n : Int) (l : List Int) : Bool := (List.range l.length).all (diffE n l)
theorem diffB_in {n : Int} {l : List Int} (h : diffB n l = true) {i : Nat} (hi : i < l.length) : 0 ≤ nth l i ∧ nth l i < n := by
  have := range_all h hi
  simp only [diffE, Bool.and_eq_true, Bool.not_eq_true', decide_eq_false_iff_not] at this
  omega
theorem f26_con (n : Int) (l : List Int) (hl : l.length ≤ maxLen) : Con Try.prog cfg 26 [I n, LI l] (.bool (diffB n l)) := by
  have ml : maxLen = 9223372036854775807 := by decide
  refine Con_intro Try.func26 rfl ok26 (Nat.le_of_ble_eq_true rfl) rfl ?_
  simp only [Try.f26, Option.getD_some, initSt2]
  simp (disch := first | (simp only [go_sem, Bool.and_self, eq_self]; done) | omega | (simp only [List.length_cons, List.length_nil]; omega)) only [go_sem, ↓reduceIte, Nat.reduceEqDiff, Nat.reduceAdd, Nat.reduceMul, Nat.reduceSub, Int.reduceToNat, Nat.reduceBEq, List.size_toArray, List.length_cons, List.length_nil, Bool.false_and, Bool.true_and, Bool.or_false, Bool.false_or, Bool.and_false, Bool.and_true]
  refine WP_for 5 l.length (fun i st h => st 0 = I n ∧ st 1 = LI l ∧ ∀ j, j < i → diffE n l j = true) (by simp (disch := first | (simp only [go_sem, Bool.and_self, eq_self]; done) | omega | (simp only [List.length_cons, List.length_nil]; omega)) only [go_sem, ↓reduceIte, Nat.reduceEqDiff, Nat.reduceAdd, Nat.reduceMul, Nat.reduceSub, Int.reduceToNat, Nat.reduceBEq, List.size_toArray, List.length_cons, List.length_nil, Bool.false_and, Bool.true_and, Bool.or_false, Bool.false_or, Bool.and_false, Bool.and_true]) ⟨by simp (disch := first | (simp only [go_sem, Bool.and_self, eq_self]; done) | omega | (simp only [List.length_cons, List.length_nil]; omega)) only [go_sem, ↓reduceIte, Nat.reduceEqDiff, Nat.reduceAdd, Nat.reduceMul, Nat.reduceSub, Int.reduceToNat, Nat.reduceBEq, List.size_toArray, List.length_cons, List.length_nil, Bool.false_and, Bool.true_and, Bool.or_false, Bool.false_or, Bool.and_false, Bool.and_true], by simp (disch := first | (simp only [go_sem, Bool.and_self, eq_self]; done) | omega | (simp only [List.length_cons, List.length_nil]; omega)) only [go_sem, ↓reduceIte, Nat.reduceEqDiff, Nat.reduceAdd, Nat.reduceMul, Nat.reduceSub, Int.reduceToNat, Nat.reduceBEq, List.size_toArray, List.length_cons, List.length_nil, Bool.false_and, Bool.true_and, Bool.or_false, Bool.false_or, Bool.and_false, Bool.and_true], by omega⟩ ?_
  rintro i st h hi s5 ⟨s0, s1, hg⟩
  by_cases hlt : i < l.length
  case neg =>
    have hr : diffB n l = true := all_range fun j hj => hg j (by omega)
    simp (disch := first | (simp only [go_sem, Bool.and_self, eq_self]; done) | omega | (simp only [List.length_cons, List.length_nil]; omega)) only [go_sem, ↓reduceIte, Nat.reduceEqDiff, Nat.reduceAdd, Nat.reduceMul, Nat.reduceSub, Int.reduceToNat, Nat.reduceBEq, List.size_toArray, List.length_cons, List.length_nil, Bool.false_and, Bool.true_and, Bool.or_false, Bool.false_or, Bool.and_false, Bool.and_true, s0, s1, s5, hlt, hr]
  have bad : diffE n l i = false → diffB n l = false := fun h => not_all_range hlt h
  have hle : i ≤ l.length := by omega
  have k60' := fun h h' K => k60 (h := h) (h' := h') (K := K) (l.take i) (nth l i) (by rw [List.length_take]; omega)
  by_cases h1 : nth l i < 0
  · have q := bad (by simp [diffE, h1])
    simp (disch := first | (simp only [go_sem, Bool.and_self, eq_self]; done) | omega | (simp only [List.length_cons, List.length_nil]; omega)) only [go_sem, ↓reduceIte, Nat.reduceEqDiff, Nat.reduceAdd, Nat.reduceMul, Nat.reduceSub, Int.reduceToNat, Nat.reduceBEq, List.size_toArray, List.length_cons, List.length_nil, Bool.false_and, Bool.true_and, Bool.or_false, Bool.false_or, Bool.and_false, Bool.and_true, s0, s1, s5, hlt, h1, q]
  by_cases h2 : n ≤ nth l i
  · have q := bad (by simp [diffE, h2])
    simp (disch := first | (simp only [go_sem, Bool.and_self, eq_self]; done) | omega | (simp only [List.length_cons, List.length_nil]; omega)) only [go_sem, ↓reduceIte, Nat.reduceEqDiff, Nat.reduceAdd, Nat.reduceMul, Nat.reduceSub, Int.reduceToNat, Nat.reduceBEq, List.size_toArray, List.length_cons, List.length_nil, Bool.false_and, Bool.true_and, Bool.or_false, Bool.false_or, Bool.and_false, Bool.and_true, s0, s1, s5, hlt, h1, h2, q]
  cases h3 : hasB (l.take i) (nth l i) with
  | true =>
    have q := bad (by simp [diffE, h3])
    simp (disch := first | (simp only [go_sem, Bool.and_self, eq_self]; done) | omega | (simp only [List.length_cons, List.length_nil]; omega)) only [go_sem, ↓reduceIte, Nat.reduceEqDiff, Nat.reduceAdd, Nat.reduceMul, Nat.reduceSub, Int.reduceToNat, Nat.reduceBEq, List.size_toArray, List.length_cons, List.length_nil, Bool.false_and, Bool.true_and, Bool.or_false, Bool.false_or, Bool.and_false, Bool.and_true, s0, s1, s5, hlt, h1, h2, h3, hle, k60', q]
  | false =>
    simp (disch := first | (simp only [go_sem, Bool.and_self, eq_self]; done) | omega | (simp only [List.length_cons, List.length_nil]; omega)) only [go_sem, ↓reduceIte, Nat.reduceEqDiff, Nat.reduceAdd, Nat.reduceMul, Nat.reduceSub, Int.reduceToNat, Nat.reduceBEq, List.size_toArray, List.length_cons, List.length_nil, Bool.false_and, Bool.true_and, Bool.or_false, Bool.false_or, Bool.and_false, Bool.and_true, s0, s1, s5, hlt, h1, h2, h3, hle, k60']
    rw [ForK_normal]
    exact ⟨hlt, by simp (disch := first | (simp only [go_sem, Bool.and_self, eq_self]; done) | omega | (simp only [List.length_cons, List.length_nil]; omega)) only [go_sem, ↓reduceIte, Nat.reduceEqDiff, Nat.reduceAdd, Nat.reduceMul, Nat.reduceSub, Int.reduceToNat, Nat.reduceBEq, List.size_toArray, List.length_cons, List.length_nil, Bool.false_and, Bool.true_and, Bool.or_false, Bool.false_or, Bool.and_false, Bool.and_true, s5], by simp (disch := first | (simp only [go_sem, Bool.and_self, eq_self]; done) | omega | (simp only [List.length_cons, List.length_nil]; omega)) only [go_sem, ↓reduceIte, Nat.reduceEqDiff, Nat.reduceAdd, Nat.reduceMul, Nat.reduceSub, Int.reduceToNat, Nat.reduceBEq, List.size_toArray, List.length_cons, List.length_nil, Bool.false_and, Bool.true_and, Bool.or_false, Bool.false_or, Bool.and_false, Bool.and_true, s0], by simp (disch := first | (simp only [go_sem, Bool.and_self, eq_self]; done) | omega | (simp only [List.length_cons, List.length_nil]; omega)) only [go_sem, ↓reduceIte, Nat.reduceEqDiff, Nat.reduceAdd, Nat.reduceMul, Nat.reduceSub, Int.reduceToNat, Nat.reduceBEq, List.size_toArray, List.length_cons, List.length_nil, Bool.false_and, Bool.true_and, Bool.or_false, Bool.false_or, Bool.and_false, Bool.and_true, s1], fun j hj => by
      rcases Nat.lt_or_ge j i with h | h
      · exact hg j h
      · rw [show j = i by omega]; simp [diffE, h1, h2, h3]⟩

/-! ### One leads to the other -/
def joinB (p : List (List Int)) (u v : Int) : Bool := hasB (nth p v.toNat) u || hasB (nth p u.toNat) v
theorem f78_con (p t : List (List Int)) (N : Net p t) (u v : Int) (hv : 0 ≤ v ∧ v < p.length) : Con Try.prog cfg 78 [.agg [LLI p, LLI t, I p.length], I u, I v] (.bool (hasB (nth p v.toNat) u)) := by
  have ml : maxLen = 9223372036854775807 := by decide
  have hl := N.pl v.toNat (by omega)
  have kk := fun h h' K => k76 (h := h) (h' := h') (K := K) (nth p v.toNat) u (by omega)
  obtain ⟨hv0, hv1⟩ := hv
  refine Con_intro Try.func78 rfl ok78 (Nat.le_of_ble_eq_true rfl) rfl ?_
  simp only [Try.f78, Option.getD_some, initSt3]
  simp (disch := first | (simp only [go_sem, Bool.and_self, eq_self]; done) | omega | (simp only [List.length_cons, List.length_nil]; omega)) only [go_sem, ↓reduceIte, Nat.reduceEqDiff, Nat.reduceAdd, Nat.reduceMul, Nat.reduceSub, Int.reduceToNat, Nat.reduceBEq, List.size_toArray, List.length_cons, List.length_nil, Bool.false_and, Bool.true_and, Bool.or_false, Bool.false_or, Bool.and_false, Bool.and_true, hv0, hv1, kk]
theorem k78 (p t : List (List Int)) (N : Net p t) (u v : Int) (hv : 0 ≤ v ∧ v < p.length) : ConW Try.prog cfg 78 h (some ([.agg [LLI p, LLI t, I p.length], I u, I v], h')) K = K (.bool (hasB (nth p v.toNat) u)) h := ConW_num (f78_con p t N u v hv) rfl
theorem f75_con (p t : List (List Int)) (N : Net p t) (u v : Int) (hu : 0 ≤ u ∧ u < p.length) (hv : 0 ≤ v ∧ v < p.length) : Con Try.prog cfg 75 [.agg [LLI p, LLI t, I p.length], I u, I v] (.bool (joinB p u v)) := by
  have k1 := fun h h' K => k78 (h := h) (h' := h') (K := K) p t N u v hv
  have k2 := fun h h' K => k78 (h := h) (h' := h') (K := K) p t N v u hu
  have hr : joinB p u v = (hasB (nth p v.toNat) u || hasB (nth p u.toNat) v) := rfl
  cases h1 : hasB (nth p v.toNat) u with
  | true =>
    refine Con_intro Try.func75 rfl ok75 (Nat.le_of_ble_eq_true rfl) rfl ?_
    simp only [Try.f75, Option.getD_some, initSt3]
    simp (disch := first | (simp only [go_sem, Bool.and_self, eq_self]; done) | omega | (simp only [List.length_cons, List.length_nil]; omega)) only [go_sem, ↓reduceIte, Nat.reduceEqDiff, Nat.reduceAdd, Nat.reduceMul, Nat.reduceSub, Int.reduceToNat, Nat.reduceBEq, List.size_toArray, List.length_cons, List.length_nil, Bool.false_and, Bool.true_and, Bool.or_false, Bool.false_or, Bool.and_false, Bool.and_true, k1, h1, hr, Bool.true_or]
  | false =>
    refine Con_intro Try.func75 rfl ok75 (Nat.le_of_ble_eq_true rfl) rfl ?_
    simp only [Try.f75, Option.getD_some, initSt3]
    simp (disch := first | (simp only [go_sem, Bool.and_self, eq_self]; done) | omega | (simp only [List.length_cons, List.length_nil]; omega)) only [go_sem, ↓reduceIte, Nat.reduceEqDiff, Nat.reduceAdd, Nat.reduceMul, Nat.reduceSub, Int.reduceToNat, Nat.reduceBEq, List.size_toArray, List.length_cons, List.length_nil, Bool.false_and, Bool.true_and, Bool.or_false, Bool.false_or, Bool.and_false, Bool.and_true, k1, k2, h1, hr]
theorem k75 (p t : List (List Int)) (N : Net p t) (u v : Int) (hu : 0 ≤ u ∧ u < p.length) (hv : 0 ≤ v ∧ v < p.length) : ConW Try.prog cfg 75 h (some ([.agg [LLI p, LLI t, I p.length], I u, I v], h')) K = K (.bool (joinB p u v)) h := ConW_num (f75_con p t N u v hu hv) rfl

end Go.Proofs.Ytpkakapbepkfdaa

set_option linter.unusedVariables false
set_option linter.unusedSimpArgs false
set_option maxRecDepth 10000
namespace Go.Proofs.Ytpkakapbepkfdaa
open Go Go.Am

variable {h h' : Hp} {K : AV → Hp → Prop}

def tE (p : List (List Int)) (l : List Int) (i : Nat) : Bool := diffE p.length l i && (i == 0 || joinB p (nth l (i - 1)) (nth l i))
def tB (p : List (List Int)) (l : List Int) : Bool := (List.range l.length).all (tE p l)
theorem tB_diff {p : List (List Int)} {l : List Int} (h : tB p l = true) : diffB p.length l = true := all_range fun i hi => by
  have := range_all h hi
  rw [tE, Bool.and_eq_true] at this; exact this.1
theorem tB_join {p : List (List Int)} {l : List Int} (h : tB p l = true) {i : Nat} (hi : i + 1 < l.length) : joinB p (nth l i) (nth l (i + 1)) = true := by
  have := range_all h hi
  rw [tE, Bool.and_eq_true] at this
  simpa using this.2
theorem diffE_inB {n : Nat} {l : List Int} {i : Nat} : diffE n l i = (inB (nth l i) 0 (n - 1) && !hasB (l.take i) (nth l i)) := by
  have : inB (nth l i) 0 ((n : Int) - 1) = (!decide (nth l i < 0) && !decide ((n : Int) ≤ nth l i)) := by
    rw [Bool.eq_iff_iff]
    simp only [inB, Bool.and_eq_true, decide_eq_true_eq, Bool.not_eq_true', decide_eq_false_iff_not]; omega
  rw [diffE, this, Bool.and_assoc]

theorem f68_con (p t : List (List Int)) (N : Net p t) (l : List Int) (hl : l.length ≤ maxLen) : Con Try.prog cfg 68 [.agg [LLI p, LLI t, I p.length], LI l] (.bool (tB p l && decide (2 ≤ l.length))) := by
  have ml : maxLen = 9223372036854775807 := by decide
  have hn1 := N.n1
  refine Con_intro Try.func68 rfl ok68 (Nat.le_of_ble_eq_true rfl) rfl ?_
  simp only [Try.f68, Option.getD_some, initSt2]
  simp (disch := first | (simp only [go_sem, Bool.and_self, eq_self]; done) | omega | (simp only [List.length_cons, List.length_nil]; omega)) only [go_sem, ↓reduceIte, Nat.reduceEqDiff, Nat.reduceAdd, Nat.reduceMul, Nat.reduceSub, Int.reduceToNat, Nat.reduceBEq, List.size_toArray, List.length_cons, List.length_nil, Bool.false_and, Bool.true_and, Bool.or_false, Bool.false_or, Bool.and_false, Bool.and_true]
  refine WP_for 9 l.length (fun i st h => st 1 = LI l ∧ st 2 = .ptr 0 0 ∧ st 7 = LI l ∧ st 8 = I l.length ∧ 1 ≤ h.nx ∧ h.bl 0 = some (.cells false false [LLI p, LLI t, I p.length]) ∧ ∀ j, j < i → tE p l j = true) (by simp (disch := first | (simp only [go_sem, Bool.and_self, eq_self]; done) | omega | (simp only [List.length_cons, List.length_nil]; omega)) only [go_sem, ↓reduceIte, Nat.reduceEqDiff, Nat.reduceAdd, Nat.reduceMul, Nat.reduceSub, Int.reduceToNat, Nat.reduceBEq, List.size_toArray, List.length_cons, List.length_nil, Bool.false_and, Bool.true_and, Bool.or_false, Bool.false_or, Bool.and_false, Bool.and_true]) ⟨by simp (disch := first | (simp only [go_sem, Bool.and_self, eq_self]; done) | omega | (simp only [List.length_cons, List.length_nil]; omega)) only [go_sem, ↓reduceIte, Nat.reduceEqDiff, Nat.reduceAdd, Nat.reduceMul, Nat.reduceSub, Int.reduceToNat, Nat.reduceBEq, List.size_toArray, List.length_cons, List.length_nil, Bool.false_and, Bool.true_and, Bool.or_false, Bool.false_or, Bool.and_false, Bool.and_true], by simp (disch := first | (simp only [go_sem, Bool.and_self, eq_self]; done) | omega | (simp only [List.length_cons, List.length_nil]; omega)) only [go_sem, ↓reduceIte, Nat.reduceEqDiff, Nat.reduceAdd, Nat.reduceMul, Nat.reduceSub, Int.reduceToNat, Nat.reduceBEq, List.size_toArray, List.length_cons, List.length_nil, Bool.false_and, Bool.true_and, Bool.or_false, Bool.false_or, Bool.and_false, Bool.and_true], by simp (disch := first | (simp only [go_sem, Bool.and_self, eq_self]; done) | omega | (simp only [List.length_cons, List.length_nil]; omega)) only [go_sem, ↓reduceIte, Nat.reduceEqDiff, Nat.reduceAdd, Nat.reduceMul, Nat.reduceSub, Int.reduceToNat, Nat.reduceBEq, List.size_toArray, List.length_cons, List.length_nil, Bool.false_and, Bool.true_and, Bool.or_false, Bool.false_or, Bool.and_false, Bool.and_true], by simp (disch := first | (simp only [go_sem, Bool.and_self, eq_self]; done) | omega | (simp only [List.length_cons, List.length_nil]; omega)) only [go_sem, ↓reduceIte, Nat.reduceEqDiff, Nat.reduceAdd, Nat.reduceMul, Nat.reduceSub, Int.reduceToNat, Nat.reduceBEq, List.size_toArray, List.length_cons, List.length_nil, Bool.false_and, Bool.true_and, Bool.or_false, Bool.false_or, Bool.and_false, Bool.and_true], by simp (disch := first | (simp only [go_sem, Bool.and_self, eq_self]; done) | omega | (simp only [List.length_cons, List.length_nil]; omega)) only [go_sem, ↓reduceIte, Nat.reduceEqDiff, Nat.reduceAdd, Nat.reduceMul, Nat.reduceSub, Int.reduceToNat, Nat.reduceBEq, List.size_toArray, List.length_cons, List.length_nil, Bool.false_and, Bool.true_and, Bool.or_false, Bool.false_or, Bool.and_false, Bool.and_true]; decide, by simp (disch := first | (simp only [go_sem, Bool.and_self, eq_self]; done) | omega | (simp only [List.length_cons, List.length_nil]; omega)) only [go_sem, ↓reduceIte, Nat.reduceEqDiff, Nat.reduceAdd, Nat.reduceMul, Nat.reduceSub, Int.reduceToNat, Nat.reduceBEq, List.size_toArray, List.length_cons, List.length_nil, Bool.false_and, Bool.true_and, Bool.or_false, Bool.false_or, Bool.and_false, Bool.and_true], by omega⟩ ?_
  rintro i st h hi s9 ⟨s1, s2, s7, s8, hnx, b0, hg⟩
  by_cases hlt : i < l.length
  case neg =>
    have hr : tB p l = true := all_range fun j hj => hg j (by omega)
    have h2 : decide (2 ≤ l.length) = decide ((2 : Int) ≤ l.length) := by rw [decide_eq_decide]; omega
    simp (disch := first | (simp only [go_sem, Bool.and_self, eq_self]; done) | omega | (simp only [List.length_cons, List.length_nil]; omega)) only [go_sem, ↓reduceIte, Nat.reduceEqDiff, Nat.reduceAdd, Nat.reduceMul, Nat.reduceSub, Int.reduceToNat, Nat.reduceBEq, List.size_toArray, List.length_cons, List.length_nil, Bool.false_and, Bool.true_and, Bool.or_false, Bool.false_or, Bool.and_false, Bool.and_true, s1, s2, s7, s8, s9, hlt, hr, h2]
  have bad : tE p l i = false → (tB p l && decide (2 ≤ l.length)) = false := fun h => by rw [tB, not_all_range hlt h, Bool.false_and]
  have hle : i ≤ l.length := by omega
  have l0 : 0 < h.nx := by omega
  have k76' := fun h h' K => k76 (h := h) (h' := h') (K := K) (l.take i) (nth l i) (by rw [List.length_take]; omega)
  cases h1 : inB (nth l i) 0 (p.length - 1) with
  | false =>
    have q := bad (by rw [tE, diffE_inB, h1]; rfl)
    simp (disch := first | (simp only [go_sem, Bool.and_self, eq_self]; done) | omega | (simp only [List.length_cons, List.length_nil]; omega)) only [go_sem, ↓reduceIte, Nat.reduceEqDiff, Nat.reduceAdd, Nat.reduceMul, Nat.reduceSub, Int.reduceToNat, Nat.reduceBEq, List.size_toArray, List.length_cons, List.length_nil, Bool.false_and, Bool.true_and, Bool.or_false, Bool.false_or, Bool.and_false, Bool.and_true, s1, s2, s7, s8, s9, hlt, b0, l0, h1, q]
  | true =>
  cases h3 : hasB (l.take i) (nth l i) with
  | true =>
    have q := bad (by rw [tE, diffE_inB, h1, h3]; rfl)
    simp (disch := first | (simp only [go_sem, Bool.and_self, eq_self]; done) | omega | (simp only [List.length_cons, List.length_nil]; omega)) only [go_sem, ↓reduceIte, Nat.reduceEqDiff, Nat.reduceAdd, Nat.reduceMul, Nat.reduceSub, Int.reduceToNat, Nat.reduceBEq, List.size_toArray, List.length_cons, List.length_nil, Bool.false_and, Bool.true_and, Bool.or_false, Bool.false_or, Bool.and_false, Bool.and_true, s1, s2, s7, s8, s9, hlt, b0, l0, h1, h3, hle, k76', q]
  | false =>
  have hin : 0 ≤ nth l i ∧ nth l i < p.length := by
    simp only [inB, Bool.and_eq_true, decide_eq_true_eq] at h1; omega
  by_cases hi0 : 0 < i
  case neg =>
    have hi00 : i = 0 := by omega
    have hid : decide ((0 : Int) < (i : Int)) = false := by simp; omega
    have q : tE p l i = true := by rw [tE, diffE_inB, h1, h3, hi00]; rfl
    simp (disch := first | (simp only [go_sem, Bool.and_self, eq_self]; done) | omega | (simp only [List.length_cons, List.length_nil]; omega)) only [go_sem, ↓reduceIte, Nat.reduceEqDiff, Nat.reduceAdd, Nat.reduceMul, Nat.reduceSub, Int.reduceToNat, Nat.reduceBEq, List.size_toArray, List.length_cons, List.length_nil, Bool.false_and, Bool.true_and, Bool.or_false, Bool.false_or, Bool.and_false, Bool.and_true, s1, s2, s7, s8, s9, hlt, b0, l0, h1, h3, hle, k76', hid]
    rw [ForK_normal]
    exact ⟨hlt, by simp (disch := first | (simp only [go_sem, Bool.and_self, eq_self]; done) | omega | (simp only [List.length_cons, List.length_nil]; omega)) only [go_sem, ↓reduceIte, Nat.reduceEqDiff, Nat.reduceAdd, Nat.reduceMul, Nat.reduceSub, Int.reduceToNat, Nat.reduceBEq, List.size_toArray, List.length_cons, List.length_nil, Bool.false_and, Bool.true_and, Bool.or_false, Bool.false_or, Bool.and_false, Bool.and_true, s9], by simp (disch := first | (simp only [go_sem, Bool.and_self, eq_self]; done) | omega | (simp only [List.length_cons, List.length_nil]; omega)) only [go_sem, ↓reduceIte, Nat.reduceEqDiff, Nat.reduceAdd, Nat.reduceMul, Nat.reduceSub, Int.reduceToNat, Nat.reduceBEq, List.size_toArray, List.length_cons, List.length_nil, Bool.false_and, Bool.true_and, Bool.or_false, Bool.false_or, Bool.and_false, Bool.and_true, s1], by simp (disch := first | (simp only [go_sem, Bool.and_self, eq_self]; done) | omega | (simp only [List.length_cons, List.length_nil]; omega)) only [go_sem, ↓reduceIte, Nat.reduceEqDiff, Nat.reduceAdd, Nat.reduceMul, Nat.reduceSub, Int.reduceToNat, Nat.reduceBEq, List.size_toArray, List.length_cons, List.length_nil, Bool.false_and, Bool.true_and, Bool.or_false, Bool.false_or, Bool.and_false, Bool.and_true, s2], by simp (disch := first | (simp only [go_sem, Bool.and_self, eq_self]; done) | omega | (simp only [List.length_cons, List.length_nil]; omega)) only [go_sem, ↓reduceIte, Nat.reduceEqDiff, Nat.reduceAdd, Nat.reduceMul, Nat.reduceSub, Int.reduceToNat, Nat.reduceBEq, List.size_toArray, List.length_cons, List.length_nil, Bool.false_and, Bool.true_and, Bool.or_false, Bool.false_or, Bool.and_false, Bool.and_true, s7], by simp (disch := first | (simp only [go_sem, Bool.and_self, eq_self]; done) | omega | (simp only [List.length_cons, List.length_nil]; omega)) only [go_sem, ↓reduceIte, Nat.reduceEqDiff, Nat.reduceAdd, Nat.reduceMul, Nat.reduceSub, Int.reduceToNat, Nat.reduceBEq, List.size_toArray, List.length_cons, List.length_nil, Bool.false_and, Bool.true_and, Bool.or_false, Bool.false_or, Bool.and_false, Bool.and_true, s8], hnx, b0, fun j hj => by
      rcases Nat.lt_or_ge j i with h | h
      · exact hg j h
      · rw [show j = i by omega]; exact q⟩
  have hid : decide ((0 : Int) < (i : Int)) = true := by simp; omega
  have hprev := hg (i - 1) (by omega)
  have hpin : 0 ≤ nth l (i - 1) ∧ nth l (i - 1) < p.length := by
    rw [tE, Bool.and_eq_true, diffE] at hprev
    simp only [Bool.and_eq_true, Bool.not_eq_true', decide_eq_false_iff_not] at hprev
    omega
  have k75' := fun h h' K => k75 (h := h) (h' := h') (K := K) p t N (nth l (i - 1)) (nth l i) hpin hin
  have hi1 : ((i : Int) - 1).toNat = i - 1 := by omega
  have hi2 : (0 : Int) ≤ (i : Int) - 1 := by omega
  have hi3 : (i : Int) - 1 < l.length := by omega
  cases h4 : joinB p (nth l (i - 1)) (nth l i) with
  | false =>
    have q := bad (by rw [tE, h4]; simp; omega)
    simp (disch := first | (simp only [go_sem, Bool.and_self, eq_self]; done) | omega | (simp only [List.length_cons, List.length_nil]; omega)) only [go_sem, ↓reduceIte, Nat.reduceEqDiff, Nat.reduceAdd, Nat.reduceMul, Nat.reduceSub, Int.reduceToNat, Nat.reduceBEq, List.size_toArray, List.length_cons, List.length_nil, Bool.false_and, Bool.true_and, Bool.or_false, Bool.false_or, Bool.and_false, Bool.and_true, s1, s2, s7, s8, s9, hlt, b0, l0, h1, h3, hle, k76', hid, k75', hi1, hi2, hi3, h4, q]
  | true =>
    have q : tE p l i = true := by rw [tE, diffE_inB, h1, h3, h4]; simp
    simp (disch := first | (simp only [go_sem, Bool.and_self, eq_self]; done) | omega | (simp only [List.length_cons, List.length_nil]; omega)) only [go_sem, ↓reduceIte, Nat.reduceEqDiff, Nat.reduceAdd, Nat.reduceMul, Nat.reduceSub, Int.reduceToNat, Nat.reduceBEq, List.size_toArray, List.length_cons, List.length_nil, Bool.false_and, Bool.true_and, Bool.or_false, Bool.false_or, Bool.and_false, Bool.and_true, s1, s2, s7, s8, s9, hlt, b0, l0, h1, h3, hle, k76', hid, k75', hi1, hi2, hi3, h4]
    rw [ForK_normal]
    exact ⟨hlt, by simp (disch := first | (simp only [go_sem, Bool.and_self, eq_self]; done) | omega | (simp only [List.length_cons, List.length_nil]; omega)) only [go_sem, ↓reduceIte, Nat.reduceEqDiff, Nat.reduceAdd, Nat.reduceMul, Nat.reduceSub, Int.reduceToNat, Nat.reduceBEq, List.size_toArray, List.length_cons, List.length_nil, Bool.false_and, Bool.true_and, Bool.or_false, Bool.false_or, Bool.and_false, Bool.and_true, s9], by simp (disch := first | (simp only [go_sem, Bool.and_self, eq_self]; done) | omega | (simp only [List.length_cons, List.length_nil]; omega)) only [go_sem, ↓reduceIte, Nat.reduceEqDiff, Nat.reduceAdd, Nat.reduceMul, Nat.reduceSub, Int.reduceToNat, Nat.reduceBEq, List.size_toArray, List.length_cons, List.length_nil, Bool.false_and, Bool.true_and, Bool.or_false, Bool.false_or, Bool.and_false, Bool.and_true, s1], by simp (disch := first | (simp only [go_sem, Bool.and_self, eq_self]; done) | omega | (simp only [List.length_cons, List.length_nil]; omega)) only [go_sem, ↓reduceIte, Nat.reduceEqDiff, Nat.reduceAdd, Nat.reduceMul, Nat.reduceSub, Int.reduceToNat, Nat.reduceBEq, List.size_toArray, List.length_cons, List.length_nil, Bool.false_and, Bool.true_and, Bool.or_false, Bool.false_or, Bool.and_false, Bool.and_true, s2], by simp (disch := first | (simp only [go_sem, Bool.and_self, eq_self]; done) | omega | (simp only [List.length_cons, List.length_nil]; omega)) only [go_sem, ↓reduceIte, Nat.reduceEqDiff, Nat.reduceAdd, Nat.reduceMul, Nat.reduceSub, Int.reduceToNat, Nat.reduceBEq, List.size_toArray, List.length_cons, List.length_nil, Bool.false_and, Bool.true_and, Bool.or_false, Bool.false_or, Bool.and_false, Bool.and_true, s7], by simp (disch := first | (simp only [go_sem, Bool.and_self, eq_self]; done) | omega | (simp only [List.length_cons, List.length_nil]; omega)) only [go_sem, ↓reduceIte, Nat.reduceEqDiff, Nat.reduceAdd, Nat.reduceMul, Nat.reduceSub, Int.reduceToNat, Nat.reduceBEq, List.size_toArray, List.length_cons, List.length_nil, Bool.false_and, Bool.true_and, Bool.or_false, Bool.false_or, Bool.and_false, Bool.and_true, s8], hnx, b0, fun j hj => by
      rcases Nat.lt_or_ge j i with h | h
      · exact hg j h
      · rw [show j = i by omega]; exact q⟩

theorem f28_con (p t : List (List Int)) (N : Net p t) (l : List Int) (hl : l.length + 1 ≤ maxLen) : Con Try.prog cfg 28 [.agg [LLI p, LLI t], LI l] (.bool (tB p l)) := by
  have ml : maxLen = 9223372036854775807 := by decide
  have hn1 := N.n1
  have k26 := fun h h' K => ConW_num (h := h) (h' := h') (K := K) (f26_con p.length l (by omega)) rfl
  cases hd : diffB p.length l with
  | false =>
    have hr : tB p l = false := by
      rw [Bool.eq_false_iff]; intro h; rw [tB_diff h] at hd; cases hd
    refine Con_intro Try.func28 rfl ok28 (Nat.le_of_ble_eq_true rfl) rfl ?_
    simp only [Try.f28, Option.getD_some, initSt2]
    simp (disch := first | (simp only [go_sem, Bool.and_self, eq_self]; done) | omega | (simp only [List.length_cons, List.length_nil]; omega)) only [go_sem, ↓reduceIte, Nat.reduceEqDiff, Nat.reduceAdd, Nat.reduceMul, Nat.reduceSub, Int.reduceToNat, Nat.reduceBEq, List.size_toArray, List.length_cons, List.length_nil, Bool.false_and, Bool.true_and, Bool.or_false, Bool.false_or, Bool.and_false, Bool.and_true, k26, hd, hr]
  | true =>
  refine Con_intro Try.func28 rfl ok28 (Nat.le_of_ble_eq_true rfl) rfl ?_
  simp only [Try.f28, Option.getD_some, initSt2]
  simp (disch := first | (simp only [go_sem, Bool.and_self, eq_self]; done) | omega | (simp only [List.length_cons, List.length_nil]; omega)) only [go_sem, ↓reduceIte, Nat.reduceEqDiff, Nat.reduceAdd, Nat.reduceMul, Nat.reduceSub, Int.reduceToNat, Nat.reduceBEq, List.size_toArray, List.length_cons, List.length_nil, Bool.false_and, Bool.true_and, Bool.or_false, Bool.false_or, Bool.and_false, Bool.and_true, k26, hd]
  have ok : (∀ j, j + 1 < l.length → joinB p (nth l j) (nth l (j + 1)) = true) → tB p l = true := fun h => all_range fun i hi => by
    have hdi := range_all hd hi
    rw [tE, hdi, Bool.true_and]
    cases i with
    | zero => rfl
    | succ i => simpa using h i hi
  refine WP_for 5 l.length (fun i st h => st 1 = LI l ∧ st 2 = .ptr 0 0 ∧ 1 ≤ h.nx ∧ h.bl 0 = some (.cells false false [LLI p, LLI t]) ∧ ∀ j, j < i → j + 1 < l.length → joinB p (nth l j) (nth l (j + 1)) = true) (by simp (disch := first | (simp only [go_sem, Bool.and_self, eq_self]; done) | omega | (simp only [List.length_cons, List.length_nil]; omega)) only [go_sem, ↓reduceIte, Nat.reduceEqDiff, Nat.reduceAdd, Nat.reduceMul, Nat.reduceSub, Int.reduceToNat, Nat.reduceBEq, List.size_toArray, List.length_cons, List.length_nil, Bool.false_and, Bool.true_and, Bool.or_false, Bool.false_or, Bool.and_false, Bool.and_true]) ⟨by simp (disch := first | (simp only [go_sem, Bool.and_self, eq_self]; done) | omega | (simp only [List.length_cons, List.length_nil]; omega)) only [go_sem, ↓reduceIte, Nat.reduceEqDiff, Nat.reduceAdd, Nat.reduceMul, Nat.reduceSub, Int.reduceToNat, Nat.reduceBEq, List.size_toArray, List.length_cons, List.length_nil, Bool.false_and, Bool.true_and, Bool.or_false, Bool.false_or, Bool.and_false, Bool.and_true], by simp (disch := first | (simp only [go_sem, Bool.and_self, eq_self]; done) | omega | (simp only [List.length_cons, List.length_nil]; omega)) only [go_sem, ↓reduceIte, Nat.reduceEqDiff, Nat.reduceAdd, Nat.reduceMul, Nat.reduceSub, Int.reduceToNat, Nat.reduceBEq, List.size_toArray, List.length_cons, List.length_nil, Bool.false_and, Bool.true_and, Bool.or_false, Bool.false_or, Bool.and_false, Bool.and_true], by simp (disch := first | (simp only [go_sem, Bool.and_self, eq_self]; done) | omega | (simp only [List.length_cons, List.length_nil]; omega)) only [go_sem, ↓reduceIte, Nat.reduceEqDiff, Nat.reduceAdd, Nat.reduceMul, Nat.reduceSub, Int.reduceToNat, Nat.reduceBEq, List.size_toArray, List.length_cons, List.length_nil, Bool.false_and, Bool.true_and, Bool.or_false, Bool.false_or, Bool.and_false, Bool.and_true]; decide, by simp (disch := first | (simp only [go_sem, Bool.and_self, eq_self]; done) | omega | (simp only [List.length_cons, List.length_nil]; omega)) only [go_sem, ↓reduceIte, Nat.reduceEqDiff, Nat.reduceAdd, Nat.reduceMul, Nat.reduceSub, Int.reduceToNat, Nat.reduceBEq, List.size_toArray, List.length_cons, List.length_nil, Bool.false_and, Bool.true_and, Bool.or_false, Bool.false_or, Bool.and_false, Bool.and_true], by omega⟩ ?_
  rintro i st h hi s5 ⟨s1, s2, hnx, b0, hg⟩
  by_cases hlt : i + 1 < l.length
  case neg =>
    have hr : tB p l = true := ok fun j hj => hg j (by omega) hj
    have hlt' : ¬ (i : Int) + 1 < l.length := by omega
    simp (disch := first | (simp only [go_sem, Bool.and_self, eq_self]; done) | omega | (simp only [List.length_cons, List.length_nil]; omega)) only [go_sem, ↓reduceIte, Nat.reduceEqDiff, Nat.reduceAdd, Nat.reduceMul, Nat.reduceSub, Int.reduceToNat, Nat.reduceBEq, List.size_toArray, List.length_cons, List.length_nil, Bool.false_and, Bool.true_and, Bool.or_false, Bool.false_or, Bool.and_false, Bool.and_true, s1, s2, s5, hlt', hr]
  have hlt' : (i : Int) + 1 < l.length := by omega
  have hli : i < l.length := by omega
  have l0 : 0 < h.nx := by omega
  obtain ⟨a0, a1⟩ := diffB_in hd hli
  obtain ⟨c0, c1⟩ := diffB_in hd hlt
  have hj1 : ((i : Int) + 1).toNat = i + 1 := by omega
  have hj2 : (0 : Int) ≤ (i : Int) + 1 := by omega
  have hpa := N.pl (nth l i).toNat (by omega)
  have hpc := N.pl (nth l (i + 1)).toNat (by omega)
  have ka := fun h h' K => k60 (h := h) (h' := h') (K := K) (nth p (nth l i).toNat) (nth l (i + 1)) (by omega)
  have kc := fun h h' K => k60 (h := h) (h' := h') (K := K) (nth p (nth l (i + 1)).toNat) (nth l i) (by omega)
  have hjr : joinB p (nth l i) (nth l (i + 1)) = (hasB (nth p (nth l (i + 1)).toNat) (nth l i) || hasB (nth p (nth l i).toNat) (nth l (i + 1))) := rfl
  have fin : joinB p (nth l i) (nth l (i + 1)) = true → ∀ j, j < i + 1 → j + 1 < l.length → joinB p (nth l j) (nth l (j + 1)) = true := fun h j hj hj2 => by
    rcases Nat.lt_or_ge j i with h3 | h3
    · exact hg j h3 hj2
    · rw [show j = i by omega]; exact h
  cases h1 : hasB (nth p (nth l i).toNat) (nth l (i + 1)) with
  | true =>
    simp (disch := first | (simp only [go_sem, Bool.and_self, eq_self]; done) | omega | (simp only [List.length_cons, List.length_nil]; omega)) only [go_sem, ↓reduceIte, Nat.reduceEqDiff, Nat.reduceAdd, Nat.reduceMul, Nat.reduceSub, Int.reduceToNat, Nat.reduceBEq, List.size_toArray, List.length_cons, List.length_nil, Bool.false_and, Bool.true_and, Bool.or_false, Bool.false_or, Bool.and_false, Bool.and_true, s1, s2, s5, hlt', hli, hlt, b0, l0, a0, a1, c0, c1, hj1, hj2, ka, h1]
    rw [ForK_normal]
    exact ⟨hli, by simp (disch := first | (simp only [go_sem, Bool.and_self, eq_self]; done) | omega | (simp only [List.length_cons, List.length_nil]; omega)) only [go_sem, ↓reduceIte, Nat.reduceEqDiff, Nat.reduceAdd, Nat.reduceMul, Nat.reduceSub, Int.reduceToNat, Nat.reduceBEq, List.size_toArray, List.length_cons, List.length_nil, Bool.false_and, Bool.true_and, Bool.or_false, Bool.false_or, Bool.and_false, Bool.and_true, s5], by simp (disch := first | (simp only [go_sem, Bool.and_self, eq_self]; done) | omega | (simp only [List.length_cons, List.length_nil]; omega)) only [go_sem, ↓reduceIte, Nat.reduceEqDiff, Nat.reduceAdd, Nat.reduceMul, Nat.reduceSub, Int.reduceToNat, Nat.reduceBEq, List.size_toArray, List.length_cons, List.length_nil, Bool.false_and, Bool.true_and, Bool.or_false, Bool.false_or, Bool.and_false, Bool.and_true, s1], by simp (disch := first | (simp only [go_sem, Bool.and_self, eq_self]; done) | omega | (simp only [List.length_cons, List.length_nil]; omega)) only [go_sem, ↓reduceIte, Nat.reduceEqDiff, Nat.reduceAdd, Nat.reduceMul, Nat.reduceSub, Int.reduceToNat, Nat.reduceBEq, List.size_toArray, List.length_cons, List.length_nil, Bool.false_and, Bool.true_and, Bool.or_false, Bool.false_or, Bool.and_false, Bool.and_true, s2], hnx, b0, fin (by rw [hjr, h1, Bool.or_true])⟩
  | false =>
  cases h2 : hasB (nth p (nth l (i + 1)).toNat) (nth l i) with
  | true =>
    simp (disch := first | (simp only [go_sem, Bool.and_self, eq_self]; done) | omega | (simp only [List.length_cons, List.length_nil]; omega)) only [go_sem, ↓reduceIte, Nat.reduceEqDiff, Nat.reduceAdd, Nat.reduceMul, Nat.reduceSub, Int.reduceToNat, Nat.reduceBEq, List.size_toArray, List.length_cons, List.length_nil, Bool.false_and, Bool.true_and, Bool.or_false, Bool.false_or, Bool.and_false, Bool.and_true, s1, s2, s5, hlt', hli, hlt, b0, l0, a0, a1, c0, c1, hj1, hj2, ka, kc, h1, h2]
    rw [ForK_normal]
    exact ⟨hli, by simp (disch := first | (simp only [go_sem, Bool.and_self, eq_self]; done) | omega | (simp only [List.length_cons, List.length_nil]; omega)) only [go_sem, ↓reduceIte, Nat.reduceEqDiff, Nat.reduceAdd, Nat.reduceMul, Nat.reduceSub, Int.reduceToNat, Nat.reduceBEq, List.size_toArray, List.length_cons, List.length_nil, Bool.false_and, Bool.true_and, Bool.or_false, Bool.false_or, Bool.and_false, Bool.and_true, s5], by simp (disch := first | (simp only [go_sem, Bool.and_self, eq_self]; done) | omega | (simp only [List.length_cons, List.length_nil]; omega)) only [go_sem, ↓reduceIte, Nat.reduceEqDiff, Nat.reduceAdd, Nat.reduceMul, Nat.reduceSub, Int.reduceToNat, Nat.reduceBEq, List.size_toArray, List.length_cons, List.length_nil, Bool.false_and, Bool.true_and, Bool.or_false, Bool.false_or, Bool.and_false, Bool.and_true, s1], by simp (disch := first | (simp only [go_sem, Bool.and_self, eq_self]; done) | omega | (simp only [List.length_cons, List.length_nil]; omega)) only [go_sem, ↓reduceIte, Nat.reduceEqDiff, Nat.reduceAdd, Nat.reduceMul, Nat.reduceSub, Int.reduceToNat, Nat.reduceBEq, List.size_toArray, List.length_cons, List.length_nil, Bool.false_and, Bool.true_and, Bool.or_false, Bool.false_or, Bool.and_false, Bool.and_true, s2], hnx, b0, fin (by rw [hjr, h2, Bool.true_or])⟩
  | false =>
    have q : tB p l = false := by
      rw [Bool.eq_false_iff]; intro h
      have := tB_join h hlt
      rw [hjr, h1, h2] at this; cases this
    simp (disch := first | (simp only [go_sem, Bool.and_self, eq_self]; done) | omega | (simp only [List.length_cons, List.length_nil]; omega)) only [go_sem, ↓reduceIte, Nat.reduceEqDiff, Nat.reduceAdd, Nat.reduceMul, Nat.reduceSub, Int.reduceToNat, Nat.reduceBEq, List.size_toArray, List.length_cons, List.length_nil, Bool.false_and, Bool.true_and, Bool.or_false, Bool.false_or, Bool.and_false, Bool.and_true, s1, s2, s5, hlt', hli, hlt, b0, l0, a0, a1, c0, c1, hj1, hj2, ka, kc, h1, h2, q]

end Go.Proofs.Ytpkakapbepkfdaa

set_option linter.unusedVariables false
set_option linter.unusedSimpArgs false
set_option maxRecDepth 10000
namespace Go.Proofs.Ytpkakapbepkfdaa
open Go Go.Am

variable {h h' : Hp} {K : AV → Hp → Prop}

/-- In the set, or with a descendant in it. -/
inductive Low (p : List (List Int)) (s : List Int) : Nat → Prop
  | base {x : Nat} (h : (x : Int) ∈ s) : Low p s x
  | step {x c : Nat} (hc : c < p.length) (h : (x : Int) ∈ nth p c) (l : Low p s c) : Low p s x
inductive Desc (p : List (List Int)) (v : Nat) : Nat → Prop
  | par {w : Nat} (hw : w < p.length) (h : (v : Int) ∈ nth p w) : Desc p v w
  | step {w q : Nat} (hw : w < p.length) (h : (q : Int) ∈ nth p w) (d : Desc p v q) : Desc p v w
open Classical in
noncomputable def lowB (p : List (List Int)) (s : List Int) (v : Nat) : Bool := decide (Low p s v)
open Classical in
theorem lowB_iff {p : List (List Int)} {s : List Int} {v : Nat} : lowB p s v = true ↔ Low p s v := by unfold lowB; exact decide_eq_true_iff
theorem mem_par {p t : List (List Int)} (N : Net p t) {w : Nat} (hw : w < p.length) {x : Int} (h : x ∈ nth p w) : 0 ≤ x ∧ x < w := by
  obtain ⟨j, hj, rfl⟩ := List.getElem_of_mem h
  rw [← nth_getElem hj]; exact N.par w j hw hj
theorem Desc.lt {p t : List (List Int)} (N : Net p t) {v w : Nat} (d : Desc p v w) : v < w := by
  induction d with
  | par hw h => have := mem_par N hw h; omega
  | step hw h _ ih => have := mem_par N hw h; omega
theorem Desc.low {p : List (List Int)} {s : List Int} {v w : Nat} (d : Desc p v w) : Low p s w → Low p s v := by
  induction d with
  | par hw h => exact fun l => .step hw h l
  | step hw h _ ih => exact fun l => ih (.step hw h l)
theorem Desc.front {p : List (List Int)} {x c w : Nat} (hc : c < p.length) (h : (x : Int) ∈ nth p c) (d : Desc p c w) : Desc p x w := by
  induction d with
  | par hw hq => exact .step hw hq (.par hc h)
  | step hw hq _ ih => exact .step hw hq ih
theorem Low.desc {p : List (List Int)} {s : List Int} {v : Nat} (l : Low p s v) : ∃ w : Nat, (w : Int) ∈ s ∧ (w = v ∨ Desc p v w) := by
  induction l with
  | base h => exact ⟨_, h, .inl rfl⟩
  | step hc h _ ih =>
    obtain ⟨w, hw, h2⟩ := ih
    refine ⟨w, hw, .inr ?_⟩
    rcases h2 with rfl | h2
    · exact .par hc h
    · exact Desc.front hc h h2
theorem Seen.iff {p t : List (List Int)} (N : Net p t) {v : Nat} {bs : List Bool} (S : Seen p v bs p.length) : ∀ w, w < p.length → (nth bs w = true ↔ Desc p v w) := by
  intro w
  induction w using Nat.strongRecOn with
  | ind w ih =>
    intro hw
    rcases Nat.lt_or_ge v w with hvw | hvw
    · rw [S.hi w hvw hw, List.any_eq_true]
      constructor
      · rintro ⟨j, hj, h⟩
        have hj' : j < (nth p w).length := by simpa using hj
        have hm : nth (nth p w) j ∈ nth p w := nth_mem hj'
        obtain ⟨p0, p1⟩ := N.par w j hw hj'
        simp only [Bool.or_eq_true, decide_eq_true_eq] at h
        rcases h with h | h
        · rw [h] at hm; exact .par hw hm
        · have hd := (ih (nth (nth p w) j).toNat (by omega) (by omega)).1 h
          refine .step hw (q := (nth (nth p w) j).toNat) ?_ hd
          rw [show (((nth (nth p w) j).toNat : Nat) : Int) = nth (nth p w) j by omega]; exact hm
      · intro d
        have key : ∀ x : Int, x ∈ nth p w → (x = v ∨ nth bs x.toNat = true) → ∃ j, j ∈ List.range (nth p w).length ∧ (decide (nth (nth p w) j = (v : Int)) || nth bs (nth (nth p w) j).toNat) = true := fun x hx h => by
          obtain ⟨j, hj, rfl⟩ := List.getElem_of_mem hx
          refine ⟨j, by simpa using hj, ?_⟩
          rw [nth_getElem hj]
          simp only [Bool.or_eq_true, decide_eq_true_eq]; exact h
        cases d with
        | par _ h => exact key v h (.inl rfl)
        | @step _ q _ h d =>
          have hq := mem_par N hw h
          exact key q h (.inr (by rw [Int.toNat_natCast]; exact (ih q (by omega) (by omega)).2 d))
    · constructor
      · intro h; rw [S.lo w hvw] at h; cases h
      · intro d; have := d.lt N; omega

theorem f61_con (p t : List (List Int)) (N : Net p t) (v : Nat) (hv : v < p.length) (s : List Int) (hl : s.length ≤ maxLen) (hs : ∀ i, i < s.length → 0 ≤ nth s i ∧ nth s i < p.length) : Con Try.prog cfg 61 [.agg [LLI p, LLI t], I v, LI s] (.bool (lowB p s v)) := by
  have ml : maxLen = 9223372036854775807 := by decide
  refine Con_intro Try.func61 rfl ok61 (Nat.le_of_ble_eq_true rfl) rfl ?_
  simp only [Try.f61, Option.getD_some, initSt3]
  simp (disch := first | (simp only [go_sem, Bool.and_self, eq_self]; done) | omega | (simp only [List.length_cons, List.length_nil]; omega)) only [go_sem, ↓reduceIte, Nat.reduceEqDiff, Nat.reduceAdd, Nat.reduceMul, Nat.reduceSub, Int.reduceToNat, Nat.reduceBEq, List.size_toArray, List.length_cons, List.length_nil, Bool.false_and, Bool.true_and, Bool.or_false, Bool.false_or, Bool.and_false, Bool.and_true]
  refine WP_for 7 s.length (fun i st h => st 1 = I v ∧ st 2 = LI s ∧ st 3 = .ptr 0 0 ∧ 1 ≤ h.nx ∧ h.bl 0 = some (.cells false false [LLI p, LLI t]) ∧ ∀ j, j < i → nth s j ≠ v ∧ ¬ Desc p v (nth s j).toNat) (by simp (disch := first | (simp only [go_sem, Bool.and_self, eq_self]; done) | omega | (simp only [List.length_cons, List.length_nil]; omega)) only [go_sem, ↓reduceIte, Nat.reduceEqDiff, Nat.reduceAdd, Nat.reduceMul, Nat.reduceSub, Int.reduceToNat, Nat.reduceBEq, List.size_toArray, List.length_cons, List.length_nil, Bool.false_and, Bool.true_and, Bool.or_false, Bool.false_or, Bool.and_false, Bool.and_true]) ⟨by simp (disch := first | (simp only [go_sem, Bool.and_self, eq_self]; done) | omega | (simp only [List.length_cons, List.length_nil]; omega)) only [go_sem, ↓reduceIte, Nat.reduceEqDiff, Nat.reduceAdd, Nat.reduceMul, Nat.reduceSub, Int.reduceToNat, Nat.reduceBEq, List.size_toArray, List.length_cons, List.length_nil, Bool.false_and, Bool.true_and, Bool.or_false, Bool.false_or, Bool.and_false, Bool.and_true], by simp (disch := first | (simp only [go_sem, Bool.and_self, eq_self]; done) | omega | (simp only [List.length_cons, List.length_nil]; omega)) only [go_sem, ↓reduceIte, Nat.reduceEqDiff, Nat.reduceAdd, Nat.reduceMul, Nat.reduceSub, Int.reduceToNat, Nat.reduceBEq, List.size_toArray, List.length_cons, List.length_nil, Bool.false_and, Bool.true_and, Bool.or_false, Bool.false_or, Bool.and_false, Bool.and_true], by simp (disch := first | (simp only [go_sem, Bool.and_self, eq_self]; done) | omega | (simp only [List.length_cons, List.length_nil]; omega)) only [go_sem, ↓reduceIte, Nat.reduceEqDiff, Nat.reduceAdd, Nat.reduceMul, Nat.reduceSub, Int.reduceToNat, Nat.reduceBEq, List.size_toArray, List.length_cons, List.length_nil, Bool.false_and, Bool.true_and, Bool.or_false, Bool.false_or, Bool.and_false, Bool.and_true], by simp (disch := first | (simp only [go_sem, Bool.and_self, eq_self]; done) | omega | (simp only [List.length_cons, List.length_nil]; omega)) only [go_sem, ↓reduceIte, Nat.reduceEqDiff, Nat.reduceAdd, Nat.reduceMul, Nat.reduceSub, Int.reduceToNat, Nat.reduceBEq, List.size_toArray, List.length_cons, List.length_nil, Bool.false_and, Bool.true_and, Bool.or_false, Bool.false_or, Bool.and_false, Bool.and_true]; decide, by simp (disch := first | (simp only [go_sem, Bool.and_self, eq_self]; done) | omega | (simp only [List.length_cons, List.length_nil]; omega)) only [go_sem, ↓reduceIte, Nat.reduceEqDiff, Nat.reduceAdd, Nat.reduceMul, Nat.reduceSub, Int.reduceToNat, Nat.reduceBEq, List.size_toArray, List.length_cons, List.length_nil, Bool.false_and, Bool.true_and, Bool.or_false, Bool.false_or, Bool.and_false, Bool.and_true], by omega⟩ ?_
  rintro i st h hi s7 ⟨s1, s2, s3, hnx, b0, hg⟩
  by_cases hlt : i < s.length
  case neg =>
    have hr : lowB p s v = false := by
      rw [Bool.eq_false_iff]; intro h
      obtain ⟨w, hw, h2⟩ := (lowB_iff.1 h).desc
      obtain ⟨j, hj, he⟩ := List.getElem_of_mem hw
      have := hg j (by omega)
      rw [nth_getElem hj, he, Int.toNat_natCast] at this
      rcases h2 with rfl | h2
      · exact this.1 rfl
      · exact this.2 h2
    simp (disch := first | (simp only [go_sem, Bool.and_self, eq_self]; done) | omega | (simp only [List.length_cons, List.length_nil]; omega)) only [go_sem, ↓reduceIte, Nat.reduceEqDiff, Nat.reduceAdd, Nat.reduceMul, Nat.reduceSub, Int.reduceToNat, Nat.reduceBEq, List.size_toArray, List.length_cons, List.length_nil, Bool.false_and, Bool.true_and, Bool.or_false, Bool.false_or, Bool.and_false, Bool.and_true, s1, s2, s3, s7, hlt, hr]
  have l0 : 0 < h.nx := by omega
  obtain ⟨x0, x1⟩ := hs i hlt
  have hmem : nth s i ∈ s := nth_mem hlt
  have hxn : (((nth s i).toNat : Nat) : Int) = nth s i := by omega
  by_cases he : nth s i = (v : Int)
  · have hr : lowB p s v = true := lowB_iff.2 (.base (by rw [← he]; exact hmem))
    have he' : decide (nth s i = (v : Int)) = true := by simp [he]
    simp (disch := first | (simp only [go_sem, Bool.and_self, eq_self]; done) | omega | (simp only [List.length_cons, List.length_nil]; omega)) only [go_sem, ↓reduceIte, Nat.reduceEqDiff, Nat.reduceAdd, Nat.reduceMul, Nat.reduceSub, Int.reduceToNat, Nat.reduceBEq, List.size_toArray, List.length_cons, List.length_nil, Bool.false_and, Bool.true_and, Bool.or_false, Bool.false_or, Bool.and_false, Bool.and_true, s1, s2, s3, s7, hlt, he', hr]
  have he' : decide (nth s i = (v : Int)) = false := by simp [he]
  obtain ⟨bs, S, c⟩ := f45_con p t N v (nth s i).toNat hv (by omega)
  rw [hxn] at c
  have kc := fun h h' K => ConW_num (h := h) (h' := h') (K := K) c rfl
  have hiff := S.iff N (nth s i).toNat (by omega)
  cases hb : nth bs (nth s i).toNat with
  | true =>
    have hr : lowB p s v = true := lowB_iff.2 ((hiff.1 hb).low (.base (by rw [hxn]; exact hmem)))
    simp (disch := first | (simp only [go_sem, Bool.and_self, eq_self]; done) | omega | (simp only [List.length_cons, List.length_nil]; omega)) only [go_sem, ↓reduceIte, Nat.reduceEqDiff, Nat.reduceAdd, Nat.reduceMul, Nat.reduceSub, Int.reduceToNat, Nat.reduceBEq, List.size_toArray, List.length_cons, List.length_nil, Bool.false_and, Bool.true_and, Bool.or_false, Bool.false_or, Bool.and_false, Bool.and_true, s1, s2, s3, s7, hlt, he', b0, l0, kc, hb, hr]
  | false =>
    simp (disch := first | (simp only [go_sem, Bool.and_self, eq_self]; done) | omega | (simp only [List.length_cons, List.length_nil]; omega)) only [go_sem, ↓reduceIte, Nat.reduceEqDiff, Nat.reduceAdd, Nat.reduceMul, Nat.reduceSub, Int.reduceToNat, Nat.reduceBEq, List.size_toArray, List.length_cons, List.length_nil, Bool.false_and, Bool.true_and, Bool.or_false, Bool.false_or, Bool.and_false, Bool.and_true, s1, s2, s3, s7, hlt, he', b0, l0, kc, hb]
    rw [ForK_normal]
    exact ⟨hlt, by simp (disch := first | (simp only [go_sem, Bool.and_self, eq_self]; done) | omega | (simp only [List.length_cons, List.length_nil]; omega)) only [go_sem, ↓reduceIte, Nat.reduceEqDiff, Nat.reduceAdd, Nat.reduceMul, Nat.reduceSub, Int.reduceToNat, Nat.reduceBEq, List.size_toArray, List.length_cons, List.length_nil, Bool.false_and, Bool.true_and, Bool.or_false, Bool.false_or, Bool.and_false, Bool.and_true, s7], by simp (disch := first | (simp only [go_sem, Bool.and_self, eq_self]; done) | omega | (simp only [List.length_cons, List.length_nil]; omega)) only [go_sem, ↓reduceIte, Nat.reduceEqDiff, Nat.reduceAdd, Nat.reduceMul, Nat.reduceSub, Int.reduceToNat, Nat.reduceBEq, List.size_toArray, List.length_cons, List.length_nil, Bool.false_and, Bool.true_and, Bool.or_false, Bool.false_or, Bool.and_false, Bool.and_true, s1], by simp (disch := first | (simp only [go_sem, Bool.and_self, eq_self]; done) | omega | (simp only [List.length_cons, List.length_nil]; omega)) only [go_sem, ↓reduceIte, Nat.reduceEqDiff, Nat.reduceAdd, Nat.reduceMul, Nat.reduceSub, Int.reduceToNat, Nat.reduceBEq, List.size_toArray, List.length_cons, List.length_nil, Bool.false_and, Bool.true_and, Bool.or_false, Bool.false_or, Bool.and_false, Bool.and_true, s2], by simp (disch := first | (simp only [go_sem, Bool.and_self, eq_self]; done) | omega | (simp only [List.length_cons, List.length_nil]; omega)) only [go_sem, ↓reduceIte, Nat.reduceEqDiff, Nat.reduceAdd, Nat.reduceMul, Nat.reduceSub, Int.reduceToNat, Nat.reduceBEq, List.size_toArray, List.length_cons, List.length_nil, Bool.false_and, Bool.true_and, Bool.or_false, Bool.false_or, Bool.and_false, Bool.and_true, s3], hnx, b0, fun j hj => by
      rcases Nat.lt_or_ge j i with h | h
      · exact hg j h
      · rw [show j = i by omega]
        exact ⟨he, fun d => by rw [hiff.2 d] at hb; cases hb⟩⟩

/-! ### Active -/
noncomputable def opB (p : List (List Int)) (s : List Int) (u v w : Int) : Bool := if hasB (nth p v.toNat) u && hasB (nth p v.toNat) w then lowB p s v.toNat else !hasB s v
noncomputable def actB (p : List (List Int)) (s l : List Int) : Bool := (List.range (l.length - 2)).all fun i => opB p s (nth l i) (nth l (i + 1)) (nth l (i + 2))
theorem f29_con (p t : List (List Int)) (N : Net p t) (l s : List Int) (hl : l.length + 2 ≤ maxLen) (hsl : s.length ≤ maxLen) (hd : diffB p.length l = true) (hs : diffB p.length s = true) : Con Try.prog cfg 29 [.agg [LLI p, LLI t], LI l, LI s] (.bool (actB p s l)) := by
  have ml : maxLen = 9223372036854775807 := by decide
  have hn1 := N.n1
  refine Con_intro Try.func29 rfl ok29 (Nat.le_of_ble_eq_true rfl) rfl ?_
  simp only [Try.f29, Option.getD_some, initSt3]
  simp (disch := first | (simp only [go_sem, Bool.and_self, eq_self]; done) | omega | (simp only [List.length_cons, List.length_nil]; omega)) only [go_sem, ↓reduceIte, Nat.reduceEqDiff, Nat.reduceAdd, Nat.reduceMul, Nat.reduceSub, Int.reduceToNat, Nat.reduceBEq, List.size_toArray, List.length_cons, List.length_nil, Bool.false_and, Bool.true_and, Bool.or_false, Bool.false_or, Bool.and_false, Bool.and_true]
  refine WP_for1 7 l.length (fun i st h => st 1 = LI l ∧ st 2 = LI s ∧ st 3 = .ptr 0 0 ∧ 1 ≤ h.nx ∧ h.bl 0 = some (.cells false false [LLI p, LLI t]) ∧ ∀ j, j < i → j + 2 < l.length → opB p s (nth l j) (nth l (j + 1)) (nth l (j + 2)) = true) (by simp (disch := first | (simp only [go_sem, Bool.and_self, eq_self]; done) | omega | (simp only [List.length_cons, List.length_nil]; omega)) only [go_sem, ↓reduceIte, Nat.reduceEqDiff, Nat.reduceAdd, Nat.reduceMul, Nat.reduceSub, Int.reduceToNat, Nat.reduceBEq, List.size_toArray, List.length_cons, List.length_nil, Bool.false_and, Bool.true_and, Bool.or_false, Bool.false_or, Bool.and_false, Bool.and_true]) ⟨by simp (disch := first | (simp only [go_sem, Bool.and_self, eq_self]; done) | omega | (simp only [List.length_cons, List.length_nil]; omega)) only [go_sem, ↓reduceIte, Nat.reduceEqDiff, Nat.reduceAdd, Nat.reduceMul, Nat.reduceSub, Int.reduceToNat, Nat.reduceBEq, List.size_toArray, List.length_cons, List.length_nil, Bool.false_and, Bool.true_and, Bool.or_false, Bool.false_or, Bool.and_false, Bool.and_true], by simp (disch := first | (simp only [go_sem, Bool.and_self, eq_self]; done) | omega | (simp only [List.length_cons, List.length_nil]; omega)) only [go_sem, ↓reduceIte, Nat.reduceEqDiff, Nat.reduceAdd, Nat.reduceMul, Nat.reduceSub, Int.reduceToNat, Nat.reduceBEq, List.size_toArray, List.length_cons, List.length_nil, Bool.false_and, Bool.true_and, Bool.or_false, Bool.false_or, Bool.and_false, Bool.and_true], by simp (disch := first | (simp only [go_sem, Bool.and_self, eq_self]; done) | omega | (simp only [List.length_cons, List.length_nil]; omega)) only [go_sem, ↓reduceIte, Nat.reduceEqDiff, Nat.reduceAdd, Nat.reduceMul, Nat.reduceSub, Int.reduceToNat, Nat.reduceBEq, List.size_toArray, List.length_cons, List.length_nil, Bool.false_and, Bool.true_and, Bool.or_false, Bool.false_or, Bool.and_false, Bool.and_true], by simp (disch := first | (simp only [go_sem, Bool.and_self, eq_self]; done) | omega | (simp only [List.length_cons, List.length_nil]; omega)) only [go_sem, ↓reduceIte, Nat.reduceEqDiff, Nat.reduceAdd, Nat.reduceMul, Nat.reduceSub, Int.reduceToNat, Nat.reduceBEq, List.size_toArray, List.length_cons, List.length_nil, Bool.false_and, Bool.true_and, Bool.or_false, Bool.false_or, Bool.and_false, Bool.and_true]; decide, by simp (disch := first | (simp only [go_sem, Bool.and_self, eq_self]; done) | omega | (simp only [List.length_cons, List.length_nil]; omega)) only [go_sem, ↓reduceIte, Nat.reduceEqDiff, Nat.reduceAdd, Nat.reduceMul, Nat.reduceSub, Int.reduceToNat, Nat.reduceBEq, List.size_toArray, List.length_cons, List.length_nil, Bool.false_and, Bool.true_and, Bool.or_false, Bool.false_or, Bool.and_false, Bool.and_true], by omega⟩ ?_
  rintro i st h hi s7 ⟨s1, s2, s3, hnx, b0, hg⟩
  by_cases hlt : i + 2 < l.length
  case neg =>
    have hr : actB p s l = true := all_range fun j hj => hg j (by omega) (by omega)
    have hlt' : ¬ (i : Int) + 1 + 1 < l.length := by omega
    simp (disch := first | (simp only [go_sem, Bool.and_self, eq_self]; done) | omega | (simp only [List.length_cons, List.length_nil]; omega)) only [go_sem, ↓reduceIte, Nat.reduceEqDiff, Nat.reduceAdd, Nat.reduceMul, Nat.reduceSub, Int.reduceToNat, Nat.reduceBEq, List.size_toArray, List.length_cons, List.length_nil, Bool.false_and, Bool.true_and, Bool.or_false, Bool.false_or, Bool.and_false, Bool.and_true, s1, s2, s3, s7, hlt', hr]
  have hlt' : (i : Int) + 1 + 1 < l.length := by omega
  have hl1 : (i : Int) + 1 < l.length := by omega
  have l0 : 0 < h.nx := by omega
  have hj0 : ((i : Int) + 1 - 1).toNat = i := by omega
  have hj1 : ((i : Int) + 1).toNat = i + 1 := by omega
  have hj2 : ((i : Int) + 1 + 1).toNat = i + 2 := by omega
  have hz0 : (0 : Int) ≤ (i : Int) + 1 - 1 := by omega
  have hz1 : (0 : Int) ≤ (i : Int) + 1 := by omega
  have hz2 : (0 : Int) ≤ (i : Int) + 1 + 1 := by omega
  have hzl : (i : Int) + 1 - 1 < l.length := by omega
  obtain ⟨v0, v1⟩ := diffB_in hd (show i + 1 < l.length by omega)
  have hvn : (((nth l (i + 1)).toNat : Nat) : Int) = nth l (i + 1) := by omega
  have hpl := N.pl (nth l (i + 1)).toNat (by omega)
  have ku := fun h h' K => k60 (h := h) (h' := h') (K := K) (nth p (nth l (i + 1)).toNat) (nth l i) (by omega)
  have kw := fun h h' K => k60 (h := h) (h' := h') (K := K) (nth p (nth l (i + 1)).toNat) (nth l (i + 2)) (by omega)
  have ks := fun h h' K => k60 (h := h) (h' := h') (K := K) s (nth l (i + 1)) hsl
  have ko := fun h h' K => ConW_num (h := h) (h' := h') (K := K) (f61_con p t N (nth l (i + 1)).toNat (by omega) s hsl fun j hj => diffB_in hs hj) rfl
  rw [hvn] at ko
  have bad : opB p s (nth l i) (nth l (i + 1)) (nth l (i + 2)) = false → actB p s l = false := fun h => not_all_range (i := i) (by omega) h
  have hop : opB p s (nth l i) (nth l (i + 1)) (nth l (i + 2)) = if hasB (nth p (nth l (i + 1)).toNat) (nth l i) && hasB (nth p (nth l (i + 1)).toNat) (nth l (i + 2)) then lowB p s (nth l (i + 1)).toNat else !hasB s (nth l (i + 1)) := rfl
  have fin : opB p s (nth l i) (nth l (i + 1)) (nth l (i + 2)) = true → ∀ j, j < i + 1 → j + 2 < l.length → opB p s (nth l j) (nth l (j + 1)) (nth l (j + 2)) = true := fun h j hj hj2 => by
    rcases Nat.lt_or_ge j i with h3 | h3
    · exact hg j h3 hj2
    · rw [show j = i by omega]; exact h
  have notBoth : (hasB (nth p (nth l (i + 1)).toNat) (nth l i) && hasB (nth p (nth l (i + 1)).toNat) (nth l (i + 2))) = false → opB p s (nth l i) (nth l (i + 1)) (nth l (i + 2)) = !hasB s (nth l (i + 1)) := fun h => by rw [hop, h]; rfl
  cases h1 : hasB (nth p (nth l (i + 1)).toNat) (nth l i) with
  | false =>
    have h12 := notBoth (by rw [h1]; rfl)
    cases h3 : hasB s (nth l (i + 1)) with
    | true =>
      have q := bad (by rw [h12, h3]; rfl)
      simp (disch := first | (simp only [go_sem, Bool.and_self, eq_self]; done) | omega | (simp only [List.length_cons, List.length_nil]; omega)) only [go_sem, ↓reduceIte, Nat.reduceEqDiff, Nat.reduceAdd, Nat.reduceMul, Nat.reduceSub, Int.reduceToNat, Nat.reduceBEq, List.size_toArray, List.length_cons, List.length_nil, Bool.false_and, Bool.true_and, Bool.or_false, Bool.false_or, Bool.and_false, Bool.and_true, s1, s2, s3, s7, hlt', hl1, b0, l0, hj0, hj1, hj2, hz0, hz1, hz2, hzl, v0, v1, ku, ks, h1, h3, q]
    | false =>
      simp (disch := first | (simp only [go_sem, Bool.and_self, eq_self]; done) | omega | (simp only [List.length_cons, List.length_nil]; omega)) only [go_sem, ↓reduceIte, Nat.reduceEqDiff, Nat.reduceAdd, Nat.reduceMul, Nat.reduceSub, Int.reduceToNat, Nat.reduceBEq, List.size_toArray, List.length_cons, List.length_nil, Bool.false_and, Bool.true_and, Bool.or_false, Bool.false_or, Bool.and_false, Bool.and_true, s1, s2, s3, s7, hlt', hl1, b0, l0, hj0, hj1, hj2, hz0, hz1, hz2, hzl, v0, v1, ku, ks, h1, h3]
      rw [For1K_normal]
      exact ⟨by omega, by simp (disch := first | (simp only [go_sem, Bool.and_self, eq_self]; done) | omega | (simp only [List.length_cons, List.length_nil]; omega)) only [go_sem, ↓reduceIte, Nat.reduceEqDiff, Nat.reduceAdd, Nat.reduceMul, Nat.reduceSub, Int.reduceToNat, Nat.reduceBEq, List.size_toArray, List.length_cons, List.length_nil, Bool.false_and, Bool.true_and, Bool.or_false, Bool.false_or, Bool.and_false, Bool.and_true, s7], by simp (disch := first | (simp only [go_sem, Bool.and_self, eq_self]; done) | omega | (simp only [List.length_cons, List.length_nil]; omega)) only [go_sem, ↓reduceIte, Nat.reduceEqDiff, Nat.reduceAdd, Nat.reduceMul, Nat.reduceSub, Int.reduceToNat, Nat.reduceBEq, List.size_toArray, List.length_cons, List.length_nil, Bool.false_and, Bool.true_and, Bool.or_false, Bool.false_or, Bool.and_false, Bool.and_true, s1], by simp (disch := first | (simp only [go_sem, Bool.and_self, eq_self]; done) | omega | (simp only [List.length_cons, List.length_nil]; omega)) only [go_sem, ↓reduceIte, Nat.reduceEqDiff, Nat.reduceAdd, Nat.reduceMul, Nat.reduceSub, Int.reduceToNat, Nat.reduceBEq, List.size_toArray, List.length_cons, List.length_nil, Bool.false_and, Bool.true_and, Bool.or_false, Bool.false_or, Bool.and_false, Bool.and_true, s2], by simp (disch := first | (simp only [go_sem, Bool.and_self, eq_self]; done) | omega | (simp only [List.length_cons, List.length_nil]; omega)) only [go_sem, ↓reduceIte, Nat.reduceEqDiff, Nat.reduceAdd, Nat.reduceMul, Nat.reduceSub, Int.reduceToNat, Nat.reduceBEq, List.size_toArray, List.length_cons, List.length_nil, Bool.false_and, Bool.true_and, Bool.or_false, Bool.false_or, Bool.and_false, Bool.and_true, s3], hnx, b0, fin (by rw [h12, h3]; rfl)⟩
  | true =>
  cases h2 : hasB (nth p (nth l (i + 1)).toNat) (nth l (i + 2)) with
  | false =>
    have h12 := notBoth (by rw [h2, Bool.and_false])
    cases h3 : hasB s (nth l (i + 1)) with
    | true =>
      have q := bad (by rw [h12, h3]; rfl)
      simp (disch := first | (simp only [go_sem, Bool.and_self, eq_self]; done) | omega | (simp only [List.length_cons, List.length_nil]; omega)) only [go_sem, ↓reduceIte, Nat.reduceEqDiff, Nat.reduceAdd, Nat.reduceMul, Nat.reduceSub, Int.reduceToNat, Nat.reduceBEq, List.size_toArray, List.length_cons, List.length_nil, Bool.false_and, Bool.true_and, Bool.or_false, Bool.false_or, Bool.and_false, Bool.and_true, s1, s2, s3, s7, hlt', hl1, b0, l0, hj0, hj1, hj2, hz0, hz1, hz2, hzl, v0, v1, ku, kw, ks, h1, h2, h3, q]
    | false =>
      simp (disch := first | (simp only [go_sem, Bool.and_self, eq_self]; done) | omega | (simp only [List.length_cons, List.length_nil]; omega)) only [go_sem, ↓reduceIte, Nat.reduceEqDiff, Nat.reduceAdd, Nat.reduceMul, Nat.reduceSub, Int.reduceToNat, Nat.reduceBEq, List.size_toArray, List.length_cons, List.length_nil, Bool.false_and, Bool.true_and, Bool.or_false, Bool.false_or, Bool.and_false, Bool.and_true, s1, s2, s3, s7, hlt', hl1, b0, l0, hj0, hj1, hj2, hz0, hz1, hz2, hzl, v0, v1, ku, kw, ks, h1, h2, h3]
      rw [For1K_normal]
      exact ⟨by omega, by simp (disch := first | (simp only [go_sem, Bool.and_self, eq_self]; done) | omega | (simp only [List.length_cons, List.length_nil]; omega)) only [go_sem, ↓reduceIte, Nat.reduceEqDiff, Nat.reduceAdd, Nat.reduceMul, Nat.reduceSub, Int.reduceToNat, Nat.reduceBEq, List.size_toArray, List.length_cons, List.length_nil, Bool.false_and, Bool.true_and, Bool.or_false, Bool.false_or, Bool.and_false, Bool.and_true, s7], by simp (disch := first | (simp only [go_sem, Bool.and_self, eq_self]; done) | omega | (simp only [List.length_cons, List.length_nil]; omega)) only [go_sem, ↓reduceIte, Nat.reduceEqDiff, Nat.reduceAdd, Nat.reduceMul, Nat.reduceSub, Int.reduceToNat, Nat.reduceBEq, List.size_toArray, List.length_cons, List.length_nil, Bool.false_and, Bool.true_and, Bool.or_false, Bool.false_or, Bool.and_false, Bool.and_true, s1], by simp (disch := first | (simp only [go_sem, Bool.and_self, eq_self]; done) | omega | (simp only [List.length_cons, List.length_nil]; omega)) only [go_sem, ↓reduceIte, Nat.reduceEqDiff, Nat.reduceAdd, Nat.reduceMul, Nat.reduceSub, Int.reduceToNat, Nat.reduceBEq, List.size_toArray, List.length_cons, List.length_nil, Bool.false_and, Bool.true_and, Bool.or_false, Bool.false_or, Bool.and_false, Bool.and_true, s2], by simp (disch := first | (simp only [go_sem, Bool.and_self, eq_self]; done) | omega | (simp only [List.length_cons, List.length_nil]; omega)) only [go_sem, ↓reduceIte, Nat.reduceEqDiff, Nat.reduceAdd, Nat.reduceMul, Nat.reduceSub, Int.reduceToNat, Nat.reduceBEq, List.size_toArray, List.length_cons, List.length_nil, Bool.false_and, Bool.true_and, Bool.or_false, Bool.false_or, Bool.and_false, Bool.and_true, s3], hnx, b0, fin (by rw [h12, h3]; rfl)⟩
  | true =>
    have h12 : opB p s (nth l i) (nth l (i + 1)) (nth l (i + 2)) = lowB p s (nth l (i + 1)).toNat := by rw [hop, h1, h2]; rfl
    cases h3 : lowB p s (nth l (i + 1)).toNat with
    | false =>
      have q := bad (by rw [h12, h3])
      simp (disch := first | (simp only [go_sem, Bool.and_self, eq_self]; done) | omega | (simp only [List.length_cons, List.length_nil]; omega)) only [go_sem, ↓reduceIte, Nat.reduceEqDiff, Nat.reduceAdd, Nat.reduceMul, Nat.reduceSub, Int.reduceToNat, Nat.reduceBEq, List.size_toArray, List.length_cons, List.length_nil, Bool.false_and, Bool.true_and, Bool.or_false, Bool.false_or, Bool.and_false, Bool.and_true, s1, s2, s3, s7, hlt', hl1, b0, l0, hj0, hj1, hj2, hz0, hz1, hz2, hzl, v0, v1, ku, kw, ko, h1, h2, h3, q]
    | true =>
      simp (disch := first | (simp only [go_sem, Bool.and_self, eq_self]; done) | omega | (simp only [List.length_cons, List.length_nil]; omega)) only [go_sem, ↓reduceIte, Nat.reduceEqDiff, Nat.reduceAdd, Nat.reduceMul, Nat.reduceSub, Int.reduceToNat, Nat.reduceBEq, List.size_toArray, List.length_cons, List.length_nil, Bool.false_and, Bool.true_and, Bool.or_false, Bool.false_or, Bool.and_false, Bool.and_true, s1, s2, s3, s7, hlt', hl1, b0, l0, hj0, hj1, hj2, hz0, hz1, hz2, hzl, v0, v1, ku, kw, ko, h1, h2, h3]
      rw [For1K_normal]
      exact ⟨by omega, by simp (disch := first | (simp only [go_sem, Bool.and_self, eq_self]; done) | omega | (simp only [List.length_cons, List.length_nil]; omega)) only [go_sem, ↓reduceIte, Nat.reduceEqDiff, Nat.reduceAdd, Nat.reduceMul, Nat.reduceSub, Int.reduceToNat, Nat.reduceBEq, List.size_toArray, List.length_cons, List.length_nil, Bool.false_and, Bool.true_and, Bool.or_false, Bool.false_or, Bool.and_false, Bool.and_true, s7], by simp (disch := first | (simp only [go_sem, Bool.and_self, eq_self]; done) | omega | (simp only [List.length_cons, List.length_nil]; omega)) only [go_sem, ↓reduceIte, Nat.reduceEqDiff, Nat.reduceAdd, Nat.reduceMul, Nat.reduceSub, Int.reduceToNat, Nat.reduceBEq, List.size_toArray, List.length_cons, List.length_nil, Bool.false_and, Bool.true_and, Bool.or_false, Bool.false_or, Bool.and_false, Bool.and_true, s1], by simp (disch := first | (simp only [go_sem, Bool.and_self, eq_self]; done) | omega | (simp only [List.length_cons, List.length_nil]; omega)) only [go_sem, ↓reduceIte, Nat.reduceEqDiff, Nat.reduceAdd, Nat.reduceMul, Nat.reduceSub, Int.reduceToNat, Nat.reduceBEq, List.size_toArray, List.length_cons, List.length_nil, Bool.false_and, Bool.true_and, Bool.or_false, Bool.false_or, Bool.and_false, Bool.and_true, s2], by simp (disch := first | (simp only [go_sem, Bool.and_self, eq_self]; done) | omega | (simp only [List.length_cons, List.length_nil]; omega)) only [go_sem, ↓reduceIte, Nat.reduceEqDiff, Nat.reduceAdd, Nat.reduceMul, Nat.reduceSub, Int.reduceToNat, Nat.reduceBEq, List.size_toArray, List.length_cons, List.length_nil, Bool.false_and, Bool.true_and, Bool.or_false, Bool.false_or, Bool.and_false, Bool.and_true, s3], hnx, b0, fin (by rw [h12, h3])⟩

end Go.Proofs.Ytpkakapbepkfdaa
