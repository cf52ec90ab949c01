/-
  mod, tame: some network, made of any.
  Valid fractions; networks on their way.
  ints: two lists compared.
  The weights of all rows add up.
  'BayesChances' answers true.
  some: some facts about a network, made of any pairs.
  times; a configuration in which copies of facts are handed over.
  The chain rule of probabilities, for the reference's sums: plain Lean.
  'BayesChain' answers true.
-/
import Derived.Test.YtpkakapbepkfdaaL1M2
set_option linter.unusedVariables false
set_option linter.unusedSimpArgs false
set_option maxRecDepth 10000
namespace Go.Proofs.Ytpkakapbepkfdaa
open Go Go.Am

variable {h h' : Hp} {K : AV → Hp → Prop}

@[go_sem] theorem und105 : Try.prog.underlying 105 = some (.int .u64) := Try.underlying105
def modI (x n : Int) : Int := x % 18446744073709551616 % n
theorem modI_bounds (x : Int) {n : Int} (hn : 0 < n) : 0 ≤ modI x n ∧ modI x n < n := ⟨Int.emod_nonneg _ (by omega), Int.emod_lt_of_pos _ hn⟩
theorem f31_con (x n : Int) (hn : 0 < n ∧ n ≤ 9223372036854775807) : Con Try.prog cfg 31 [I x, I n] (I (modI x n)) := by
  have hw : ∀ y, IntKind.wrap .u64 y = y % 18446744073709551616 := fun y => rfl
  have hn2 : n % 18446744073709551616 = n := Int.emod_eq_of_lt (by omega) (by omega)
  have hx := Int.emod_nonneg x (b := 18446744073709551616) (by decide)
  have ht : (x % 18446744073709551616).tmod n = modI x n := by rw [modI, Int.tmod_eq_emod_of_nonneg hx]
  have hb := modI_bounds x hn.1
  have hne : ¬ n = 0 := by omega
  refine Con_intro Try.func31 rfl ok31 (Nat.le_of_ble_eq_true rfl) rfl ?_
  simp only [Try.f31, Option.getD_some, initSt2]
  simp (disch := first | (simp only [go_sem, Bool.and_self, eq_self]; done) | omega | (simp only [List.length_cons, List.length_nil]; omega)) only [go_sem, ↓reduceIte, Nat.reduceEqDiff, Nat.reduceAdd, Nat.reduceMul, Nat.reduceSub, Int.reduceToNat, Nat.reduceBEq, List.size_toArray, List.length_cons, List.length_nil, Bool.false_and, Bool.true_and, Bool.or_false, Bool.false_or, Bool.and_false, Bool.and_true, hw, hn2, ht, hne]
theorem k31 (x n : Int) (hn : 0 < n ∧ n ≤ 9223372036854775807) : ConW Try.prog cfg 31 h (some ([I x, I n], h')) K = K (I (modI x n)) h := ConW_num (f31_con x n hn) rfl

/-! ### Lists that may be nil -/
def LV (v : AV) (p : List (List Int)) : Prop := v = LLI p ∨ (v = .nil ∧ p = [])
theorem LV.len {v : AV} {p : List (List Int)} (l : LV v p) (h : Hp) (lim : Option Nat) : lenB (some (.slice 25)) v h lim = some (I p.length) := by
  rcases l with rfl | ⟨rfl, rfl⟩
  · exact lenB_L _ _ _
  · rfl
theorem LV.cell {v : AV} {p : List (List Int)} (l : LV v p) : v.isCell = true := by
  rcases l with rfl | ⟨rfl, rfl⟩ <;> rfl
theorem LV.some {v : AV} {p : List (List Int)} (l : LV v p) {i : Nat} (hi : i < p.length) : v = LLI p := by
  rcases l with rfl | ⟨_, rfl⟩
  · rfl
  · cases hi

/-! ### Rows of a network -/
def rowOK (i : Nat) (r t : List Int) : Bool :=
  decide (r.length ≤ 3) && decide (t.length = 2 ^ r.length) && (List.range r.length).all (parB r i) && !t.any fun x => !inB x 0 16
theorem rowB_def (p t : List (List Int)) (i : Nat) : rowB p t i = rowOK i (nth p i) (nth t i) := rfl
/-- What 'tame' has in memory between two rounds. -/
structure TF (pv tv : AV) (P T : List (List Int)) (v w : AV) (h : Hp) : Prop where
  nx : 4 ≤ h.nx
  b1 : h.bl 1 = some (.cells false false [.nil, .nil])
  b2 : h.bl 2 = some (.cells false false [pv, tv])
  b3 : h.bl 3 = some (.cells false false [v, w])
  ov : Own (e1 LI) 1 h v P
  ow : Own (e1 LI) 1 h w T
  d : Dis v w
theorem Own.keepX {α : Type} {f : α → List AV} {sz : Nat} {v x : AV} {xs : List α} {h h' : Hp} (o : Own f sz h v xs) (hn : h.nx ≤ h'.nx) (hb : ∀ i, i < h.nx → (∀ id off n sz', x = .sl id off n sz' → i ≠ id) → h'.bl i = h.bl i) (d : Dis x v) : Own f sz h' v xs := by
  rcases o with o | ⟨id, e, hi, hc⟩
  · exact .inl o
  · exact .inr ⟨id, e, by omega, (hb id hi fun id' off n sz' e' => (d _ _ _ _ _ _ _ _ e' e).symm).trans hc⟩
theorem TF.mono {pv tv v w x : AV} {P T : List (List Int)} {α : Type} {f : α → List AV} {sz : Nat} {xs : List α} (F : TF pv tv P T v w h) (hn : h.nx ≤ h'.nx) (ox : Own f sz h x xs) (hb : ∀ i, i < h.nx → (∀ id off n sz', x = .sl id off n sz' → i ≠ id) → h'.bl i = h.bl i) (dv : Dis x v) (dw : Dis x w) : TF pv tv P T v w h' :=
  ⟨Nat.le_trans F.nx hn, (hb 1 (by have := F.nx; omega) (own_ne ox F.b1)).trans F.b1, (hb 2 (by have := F.nx; omega) (own_ne ox F.b2)).trans F.b2, (hb 3 (by have := F.nx; omega) (own_ne ox F.b3)).trans F.b3, Own.keepX F.ov hn hb dv, Own.keepX F.ow hn hb dw, F.d⟩
theorem TF.alloc {pv tv v w : AV} {P T : List (List Int)} (F : TF pv tv P T v w h) (b : Blk) : TF pv tv P T v w (h.alloc b) :=
  F.mono (x := .nil) (f := e1 I) (sz := 1) (xs := []) (by simp [Hp.alloc]) (.inl ⟨rfl, rfl⟩) (fun i hi _ => by simp [Hp.alloc, show ¬ i = h.nx by omega]) (Dis.nil_l _) (Dis.nil_l _)

/-- The parents chosen so far: below 'v', ascending. -/
structure Asc (v : Int) (r : List Int) : Prop where
  len : r.length ≤ 3
  lo : ∀ j, j < r.length → 0 ≤ nth r j ∧ nth r j < v
  up : ∀ j, 0 < j → j < r.length → nth r (j - 1) < nth r j
theorem Asc.le {v v' : Int} {r : List Int} (a : Asc v r) (h : v ≤ v') : Asc v' r := ⟨a.len, fun j hj => ⟨(a.lo j hj).1, by have := (a.lo j hj).2; omega⟩, a.up⟩
theorem Asc.snoc {v : Int} {r : List Int} (a : Asc v r) (h0 : 0 ≤ v) (hl : r.length < 3) : Asc (v + 1) (r ++ [v]) := by
  have last : nth (r ++ [v]) r.length = v := by rw [nth, List.getElem?_append_right (Nat.le_refl _)]; simp
  refine ⟨by simp; omega, fun j hj => ?_, fun j h1 hj => ?_⟩
  · simp only [List.length_append, List.length_singleton] at hj
    rcases Nat.lt_or_ge j r.length with h | h
    · rw [nth_append_left _ _ _ h]; have := a.lo j h; omega
    · rw [show j = r.length by omega, last]; omega
  · simp only [List.length_append, List.length_singleton] at hj
    rw [nth_append_left _ _ _ (by omega)]
    rcases Nat.lt_or_ge j r.length with h | h
    · rw [nth_append_left _ _ _ h]; exact a.up j h1 h
    · rw [show j = r.length by omega, last]; exact (a.lo _ (by omega)).2
theorem Asc.ok {i : Nat} {r t : List Int} (a : Asc i r) (ht : t.length = 2 ^ r.length) (hb : ∀ j, j < t.length → 0 ≤ nth t j ∧ nth t j ≤ 16) : rowOK i r t = true := by
  simp only [rowOK, Bool.and_eq_true, decide_eq_true_eq, Bool.not_eq_true']
  refine ⟨⟨⟨a.len, ht⟩, all_range fun j hj => ?_⟩, ?_⟩
  · have h1 := a.lo j hj
    simp only [parB, Bool.and_eq_true, Bool.or_eq_true, beq_iff_eq, decide_eq_true_eq]
    refine ⟨by simp [inB]; omega, ?_⟩
    rcases Nat.eq_zero_or_pos j with h | h
    · exact .inl h
    · exact .inr (a.up j h hj)
  · rw [List.any_eq_false]
    intro x hx
    obtain ⟨j, hj, rfl⟩ := List.getElem_of_mem hx
    rw [← nth_getElem hj]
    have := hb j hj
    simp [inB]; omega

def TameR (m : Int) : AV → Prop := fun r => ∃ P T, netB P T = true ∧ (P.length : Int) ≤ m ∧ r = .agg [LLI P, LLI T]
theorem f30_tail (p t : List (List Int)) (pv tv : AV) (lpv : LV pv p) (ltv : LV tv t) (okp : okLL p) (okt : okLL t) (lp : p.length ≤ 12) (lt : t.length ≤ 12) (m : Int) (hm : 1 ≤ m ∧ m ≤ 10) (st : St) (h : Hp) (s1 : st 1 = I m) (s4 : st 4 = .ptr 1 0) (s5 : st 5 = .ptr 2 0)
    (hn : h.nx = 3) (b1 : h.bl 1 = some (.cells false false [.nil, .nil])) (b2 : h.bl 2 = some (.cells false false [pv, tv])) :
    WP Try.prog cfg (tailN 3 (Try.f30.body.getD .skip)) st h (fun x st h => ∃ r, RetK Try.prog (cfg.own 30) (cfg.keepNil 30) Try.f30.results.toList Try.f30.resultTypes.toList r x st h ∧ TameR m r) := by
  have ml : maxLen = 9223372036854775807 := by decide
  have klp := lpv.len
  have klt := ltv.len
  have kk := fun h h' K => k31 (h := h) (h' := h') (K := K) (p.length - 1) m (by omega)
  have hmo := modI_bounds ((p.length : Int) - 1) (n := m) (by omega)
  simp only [tailN, Try.f30, Option.getD_some]
  obtain ⟨k, hk⟩ : ∃ k : Nat, (k : Int) = 1 + modI ((p.length : Int) - 1) m := ⟨(1 + modI ((p.length : Int) - 1) m).toNat, by omega⟩
  have e3 : ∀ i, i ≠ 3 → True := fun _ _ => trivial
  simp (disch := first | (simp only [go_sem, Bool.and_self, eq_self]; done) | omega | (simp only [List.length_cons, List.length_nil]; omega)) only [go_sem, ↓reduceIte, Nat.reduceEqDiff, Nat.reduceAdd, Nat.reduceMul, Nat.reduceSub, Int.reduceToNat, Nat.reduceBEq, List.size_toArray, List.length_cons, List.length_nil, Bool.false_and, Bool.true_and, Bool.or_false, Bool.false_or, Bool.and_false, Bool.and_true, s1, s4, s5, hn, b1, b2, klp, klt, kk, ← hk]
  refine WP_cut (fun st h => st 4 = .ptr 1 0 ∧ st 5 = .ptr 2 0 ∧ st 6 = I k ∧ st 7 = .ptr 3 0 ∧ ∃ P T v w, TF pv tv P T v w h ∧ P.length = k ∧ T.length = k ∧ ∀ j, j < k → rowOK j (nth P j) (nth T j) = true) ?_ ?_
  · refine WP_for 8 k (fun i st h => st 4 = .ptr 1 0 ∧ st 5 = .ptr 2 0 ∧ st 6 = I k ∧ st 7 = .ptr 3 0 ∧ ∃ P T v w, TF pv tv P T v w h ∧ P.length = i ∧ T.length = i ∧ ∀ j, j < i → rowOK j (nth P j) (nth T j) = true) (by simp (disch := first | (simp only [go_sem, Bool.and_self, eq_self]; done) | omega | (simp only [List.length_cons, List.length_nil]; omega)) only [go_sem, ↓reduceIte, Nat.reduceEqDiff, Nat.reduceAdd, Nat.reduceMul, Nat.reduceSub, Int.reduceToNat, Nat.reduceBEq, List.size_toArray, List.length_cons, List.length_nil, Bool.false_and, Bool.true_and, Bool.or_false, Bool.false_or, Bool.and_false, Bool.and_true]) ⟨by simp (disch := first | (simp only [go_sem, Bool.and_self, eq_self]; done) | omega | (simp only [List.length_cons, List.length_nil]; omega)) only [go_sem, ↓reduceIte, Nat.reduceEqDiff, Nat.reduceAdd, Nat.reduceMul, Nat.reduceSub, Int.reduceToNat, Nat.reduceBEq, List.size_toArray, List.length_cons, List.length_nil, Bool.false_and, Bool.true_and, Bool.or_false, Bool.false_or, Bool.and_false, Bool.and_true, s4, s5], by simp (disch := first | (simp only [go_sem, Bool.and_self, eq_self]; done) | omega | (simp only [List.length_cons, List.length_nil]; omega)) only [go_sem, ↓reduceIte, Nat.reduceEqDiff, Nat.reduceAdd, Nat.reduceMul, Nat.reduceSub, Int.reduceToNat, Nat.reduceBEq, List.size_toArray, List.length_cons, List.length_nil, Bool.false_and, Bool.true_and, Bool.or_false, Bool.false_or, Bool.and_false, Bool.and_true, s4, s5], by simp (disch := first | (simp only [go_sem, Bool.and_self, eq_self]; done) | omega | (simp only [List.length_cons, List.length_nil]; omega)) only [go_sem, ↓reduceIte, Nat.reduceEqDiff, Nat.reduceAdd, Nat.reduceMul, Nat.reduceSub, Int.reduceToNat, Nat.reduceBEq, List.size_toArray, List.length_cons, List.length_nil, Bool.false_and, Bool.true_and, Bool.or_false, Bool.false_or, Bool.and_false, Bool.and_true, s4, s5], by simp (disch := first | (simp only [go_sem, Bool.and_self, eq_self]; done) | omega | (simp only [List.length_cons, List.length_nil]; omega)) only [go_sem, ↓reduceIte, Nat.reduceEqDiff, Nat.reduceAdd, Nat.reduceMul, Nat.reduceSub, Int.reduceToNat, Nat.reduceBEq, List.size_toArray, List.length_cons, List.length_nil, Bool.false_and, Bool.true_and, Bool.or_false, Bool.false_or, Bool.and_false, Bool.and_true, s4, s5], [], [], .nil, .nil, ⟨?_, ?_, ?_, ?_, .inl ⟨rfl, rfl⟩, .inl ⟨rfl, rfl⟩, Dis.nil_l _⟩, rfl, rfl, by omega⟩ ?_
    · simp (disch := first | (simp only [go_sem, Bool.and_self, eq_self]; done) | omega | (simp only [List.length_cons, List.length_nil]; omega)) only [go_sem, ↓reduceIte, Nat.reduceEqDiff, Nat.reduceAdd, Nat.reduceMul, Nat.reduceSub, Int.reduceToNat, Nat.reduceBEq, List.size_toArray, List.length_cons, List.length_nil, Bool.false_and, Bool.true_and, Bool.or_false, Bool.false_or, Bool.and_false, Bool.and_true, hn]; omega
    · simp (disch := first | (simp only [go_sem, Bool.and_self, eq_self]; done) | omega | (simp only [List.length_cons, List.length_nil]; omega)) only [go_sem, ↓reduceIte, Nat.reduceEqDiff, Nat.reduceAdd, Nat.reduceMul, Nat.reduceSub, Int.reduceToNat, Nat.reduceBEq, List.size_toArray, List.length_cons, List.length_nil, Bool.false_and, Bool.true_and, Bool.or_false, Bool.false_or, Bool.and_false, Bool.and_true, hn, b1]
    · simp (disch := first | (simp only [go_sem, Bool.and_self, eq_self]; done) | omega | (simp only [List.length_cons, List.length_nil]; omega)) only [go_sem, ↓reduceIte, Nat.reduceEqDiff, Nat.reduceAdd, Nat.reduceMul, Nat.reduceSub, Int.reduceToNat, Nat.reduceBEq, List.size_toArray, List.length_cons, List.length_nil, Bool.false_and, Bool.true_and, Bool.or_false, Bool.false_or, Bool.and_false, Bool.and_true, hn, b2]
    · simp (disch := first | (simp only [go_sem, Bool.and_self, eq_self]; done) | omega | (simp only [List.length_cons, List.length_nil]; omega)) only [go_sem, ↓reduceIte, Nat.reduceEqDiff, Nat.reduceAdd, Nat.reduceMul, Nat.reduceSub, Int.reduceToNat, Nat.reduceBEq, List.size_toArray, List.length_cons, List.length_nil, Bool.false_and, Bool.true_and, Bool.or_false, Bool.false_or, Bool.and_false, Bool.and_true, hn]
    rintro i st h hi s8 ⟨s4, s5, s6, s7, P, T, v, w, F, hPl, hTl, hok⟩
    by_cases hlt : i < k
    case neg =>
      have hik : k = i := by omega
      subst hik
      simp (disch := first | (simp only [go_sem, Bool.and_self, eq_self]; done) | omega | (simp only [List.length_cons, List.length_nil]; omega)) only [go_sem, ↓reduceIte, Nat.reduceEqDiff, Nat.reduceAdd, Nat.reduceMul, Nat.reduceSub, Int.reduceToNat, Nat.reduceBEq, List.size_toArray, List.length_cons, List.length_nil, Bool.false_and, Bool.true_and, Bool.or_false, Bool.false_or, Bool.and_false, Bool.and_true, s4, s5, s6, s7, s8, hlt]
      exact ⟨P, T, v, w, F, hPl, hTl, hok⟩
    simp (disch := first | (simp only [go_sem, Bool.and_self, eq_self]; done) | omega | (simp only [List.length_cons, List.length_nil]; omega)) only [go_sem, ↓reduceIte, Nat.reduceEqDiff, Nat.reduceAdd, Nat.reduceMul, Nat.reduceSub, Int.reduceToNat, Nat.reduceBEq, List.size_toArray, List.length_cons, List.length_nil, Bool.false_and, Bool.true_and, Bool.or_false, Bool.false_or, Bool.and_false, Bool.and_true, s4, s5, s6, s7, s8, hlt]
    refine WP_cut (fun st h => st 4 = .ptr 1 0 ∧ st 5 = .ptr 2 0 ∧ st 6 = I k ∧ st 7 = .ptr 3 0 ∧ st 8 = I i ∧ TF pv tv P T v w h ∧ ∃ x rr, st 9 = x ∧ Own (e1 I) 1 h x rr ∧ Asc i rr ∧ Dis x v ∧ Dis x w) ?_ ?_
    · refine WP_for 10 i (fun c st h => st 4 = .ptr 1 0 ∧ st 5 = .ptr 2 0 ∧ st 6 = I k ∧ st 7 = .ptr 3 0 ∧ st 8 = I i ∧ TF pv tv P T v w h ∧ ∃ x rr, st 9 = x ∧ Own (e1 I) 1 h x rr ∧ Asc c rr ∧ Dis x v ∧ Dis x w) (by simp (disch := first | (simp only [go_sem, Bool.and_self, eq_self]; done) | omega | (simp only [List.length_cons, List.length_nil]; omega)) only [go_sem, ↓reduceIte, Nat.reduceEqDiff, Nat.reduceAdd, Nat.reduceMul, Nat.reduceSub, Int.reduceToNat, Nat.reduceBEq, List.size_toArray, List.length_cons, List.length_nil, Bool.false_and, Bool.true_and, Bool.or_false, Bool.false_or, Bool.and_false, Bool.and_true]) ⟨by simp (disch := first | (simp only [go_sem, Bool.and_self, eq_self]; done) | omega | (simp only [List.length_cons, List.length_nil]; omega)) only [go_sem, ↓reduceIte, Nat.reduceEqDiff, Nat.reduceAdd, Nat.reduceMul, Nat.reduceSub, Int.reduceToNat, Nat.reduceBEq, List.size_toArray, List.length_cons, List.length_nil, Bool.false_and, Bool.true_and, Bool.or_false, Bool.false_or, Bool.and_false, Bool.and_true, s4, s5, s6, s7, s8], by simp (disch := first | (simp only [go_sem, Bool.and_self, eq_self]; done) | omega | (simp only [List.length_cons, List.length_nil]; omega)) only [go_sem, ↓reduceIte, Nat.reduceEqDiff, Nat.reduceAdd, Nat.reduceMul, Nat.reduceSub, Int.reduceToNat, Nat.reduceBEq, List.size_toArray, List.length_cons, List.length_nil, Bool.false_and, Bool.true_and, Bool.or_false, Bool.false_or, Bool.and_false, Bool.and_true, s4, s5, s6, s7, s8], by simp (disch := first | (simp only [go_sem, Bool.and_self, eq_self]; done) | omega | (simp only [List.length_cons, List.length_nil]; omega)) only [go_sem, ↓reduceIte, Nat.reduceEqDiff, Nat.reduceAdd, Nat.reduceMul, Nat.reduceSub, Int.reduceToNat, Nat.reduceBEq, List.size_toArray, List.length_cons, List.length_nil, Bool.false_and, Bool.true_and, Bool.or_false, Bool.false_or, Bool.and_false, Bool.and_true, s4, s5, s6, s7, s8], by simp (disch := first | (simp only [go_sem, Bool.and_self, eq_self]; done) | omega | (simp only [List.length_cons, List.length_nil]; omega)) only [go_sem, ↓reduceIte, Nat.reduceEqDiff, Nat.reduceAdd, Nat.reduceMul, Nat.reduceSub, Int.reduceToNat, Nat.reduceBEq, List.size_toArray, List.length_cons, List.length_nil, Bool.false_and, Bool.true_and, Bool.or_false, Bool.false_or, Bool.and_false, Bool.and_true, s4, s5, s6, s7, s8], by simp (disch := first | (simp only [go_sem, Bool.and_self, eq_self]; done) | omega | (simp only [List.length_cons, List.length_nil]; omega)) only [go_sem, ↓reduceIte, Nat.reduceEqDiff, Nat.reduceAdd, Nat.reduceMul, Nat.reduceSub, Int.reduceToNat, Nat.reduceBEq, List.size_toArray, List.length_cons, List.length_nil, Bool.false_and, Bool.true_and, Bool.or_false, Bool.false_or, Bool.and_false, Bool.and_true, s4, s5, s6, s7, s8], F, .nil, [], by simp (disch := first | (simp only [go_sem, Bool.and_self, eq_self]; done) | omega | (simp only [List.length_cons, List.length_nil]; omega)) only [go_sem, ↓reduceIte, Nat.reduceEqDiff, Nat.reduceAdd, Nat.reduceMul, Nat.reduceSub, Int.reduceToNat, Nat.reduceBEq, List.size_toArray, List.length_cons, List.length_nil, Bool.false_and, Bool.true_and, Bool.or_false, Bool.false_or, Bool.and_false, Bool.and_true], .inl ⟨rfl, rfl⟩, ⟨by simp, by simp, by simp⟩, Dis.nil_l _, Dis.nil_l _⟩ ?_
      rintro c st h hc s10 ⟨s4, s5, s6, s7, s8, F, x, rr, s9, ox, ar, dv, dw⟩
      by_cases hci : c < i
      case neg =>
        simp (disch := first | (simp only [go_sem, Bool.and_self, eq_self]; done) | omega | (simp only [List.length_cons, List.length_nil]; omega)) only [go_sem, ↓reduceIte, Nat.reduceEqDiff, Nat.reduceAdd, Nat.reduceMul, Nat.reduceSub, Int.reduceToNat, Nat.reduceBEq, List.size_toArray, List.length_cons, List.length_nil, Bool.false_and, Bool.true_and, Bool.or_false, Bool.false_or, Bool.and_false, Bool.and_true, s4, s5, s6, s7, s8, s10, hci]
        exact ⟨F, x, rr, s9, ox, ar.le (by omega), dv, dw⟩
      have b2 := F.b2
      by_cases hip : i < p.length
      case neg =>
        simp (disch := first | (simp only [go_sem, Bool.and_self, eq_self]; done) | omega | (simp only [List.length_cons, List.length_nil]; omega)) only [go_sem, ↓reduceIte, Nat.reduceEqDiff, Nat.reduceAdd, Nat.reduceMul, Nat.reduceSub, Int.reduceToNat, Nat.reduceBEq, List.size_toArray, List.length_cons, List.length_nil, Bool.false_and, Bool.true_and, Bool.or_false, Bool.false_or, Bool.and_false, Bool.and_true, s4, s5, s6, s7, s8, s10, hci, b2, klp, hip]
        exact ⟨F, x, rr, s9, ox, ar.le (by omega), dv, dw⟩
      have hpe := lpv.some hip
      rw [hpe] at b2
      have hxc := own_cell ox
      simp (disch := first | (simp only [go_sem, Bool.and_self, eq_self]; done) | omega | (simp only [List.length_cons, List.length_nil]; omega)) only [go_sem, ↓reduceIte, Nat.reduceEqDiff, Nat.reduceAdd, Nat.reduceMul, Nat.reduceSub, Int.reduceToNat, Nat.reduceBEq, List.size_toArray, List.length_cons, List.length_nil, Bool.false_and, Bool.true_and, Bool.or_false, Bool.false_or, Bool.and_false, Bool.and_true, s4, s5, s6, s7, s8, s10, hci, b2, hip]
      refine WP_cut (fun st h' => st 4 = .ptr 1 0 ∧ st 5 = .ptr 2 0 ∧ st 6 = I k ∧ st 7 = .ptr 3 0 ∧ st 8 = I i ∧ st 10 = I c ∧ st 9 = x ∧ h' = h ∧ ∃ b, st 11 = .bool b) ?_ ?_
      · refine WP_for 12 (nth p i).length (fun j st h' => st 4 = .ptr 1 0 ∧ st 5 = .ptr 2 0 ∧ st 6 = I k ∧ st 7 = .ptr 3 0 ∧ st 8 = I i ∧ st 10 = I c ∧ st 9 = x ∧ h' = h ∧ ∃ b, st 11 = .bool b) (by simp (disch := first | (simp only [go_sem, Bool.and_self, eq_self]; done) | omega | (simp only [List.length_cons, List.length_nil]; omega)) only [go_sem, ↓reduceIte, Nat.reduceEqDiff, Nat.reduceAdd, Nat.reduceMul, Nat.reduceSub, Int.reduceToNat, Nat.reduceBEq, List.size_toArray, List.length_cons, List.length_nil, Bool.false_and, Bool.true_and, Bool.or_false, Bool.false_or, Bool.and_false, Bool.and_true]) ⟨by simp (disch := first | (simp only [go_sem, Bool.and_self, eq_self]; done) | omega | (simp only [List.length_cons, List.length_nil]; omega)) only [go_sem, ↓reduceIte, Nat.reduceEqDiff, Nat.reduceAdd, Nat.reduceMul, Nat.reduceSub, Int.reduceToNat, Nat.reduceBEq, List.size_toArray, List.length_cons, List.length_nil, Bool.false_and, Bool.true_and, Bool.or_false, Bool.false_or, Bool.and_false, Bool.and_true, s4, s5, s6, s7, s8], by simp (disch := first | (simp only [go_sem, Bool.and_self, eq_self]; done) | omega | (simp only [List.length_cons, List.length_nil]; omega)) only [go_sem, ↓reduceIte, Nat.reduceEqDiff, Nat.reduceAdd, Nat.reduceMul, Nat.reduceSub, Int.reduceToNat, Nat.reduceBEq, List.size_toArray, List.length_cons, List.length_nil, Bool.false_and, Bool.true_and, Bool.or_false, Bool.false_or, Bool.and_false, Bool.and_true, s4, s5, s6, s7, s8], by simp (disch := first | (simp only [go_sem, Bool.and_self, eq_self]; done) | omega | (simp only [List.length_cons, List.length_nil]; omega)) only [go_sem, ↓reduceIte, Nat.reduceEqDiff, Nat.reduceAdd, Nat.reduceMul, Nat.reduceSub, Int.reduceToNat, Nat.reduceBEq, List.size_toArray, List.length_cons, List.length_nil, Bool.false_and, Bool.true_and, Bool.or_false, Bool.false_or, Bool.and_false, Bool.and_true, s4, s5, s6, s7, s8], by simp (disch := first | (simp only [go_sem, Bool.and_self, eq_self]; done) | omega | (simp only [List.length_cons, List.length_nil]; omega)) only [go_sem, ↓reduceIte, Nat.reduceEqDiff, Nat.reduceAdd, Nat.reduceMul, Nat.reduceSub, Int.reduceToNat, Nat.reduceBEq, List.size_toArray, List.length_cons, List.length_nil, Bool.false_and, Bool.true_and, Bool.or_false, Bool.false_or, Bool.and_false, Bool.and_true, s4, s5, s6, s7, s8], by simp (disch := first | (simp only [go_sem, Bool.and_self, eq_self]; done) | omega | (simp only [List.length_cons, List.length_nil]; omega)) only [go_sem, ↓reduceIte, Nat.reduceEqDiff, Nat.reduceAdd, Nat.reduceMul, Nat.reduceSub, Int.reduceToNat, Nat.reduceBEq, List.size_toArray, List.length_cons, List.length_nil, Bool.false_and, Bool.true_and, Bool.or_false, Bool.false_or, Bool.and_false, Bool.and_true, s4, s5, s6, s7, s8], by simp (disch := first | (simp only [go_sem, Bool.and_self, eq_self]; done) | omega | (simp only [List.length_cons, List.length_nil]; omega)) only [go_sem, ↓reduceIte, Nat.reduceEqDiff, Nat.reduceAdd, Nat.reduceMul, Nat.reduceSub, Int.reduceToNat, Nat.reduceBEq, List.size_toArray, List.length_cons, List.length_nil, Bool.false_and, Bool.true_and, Bool.or_false, Bool.false_or, Bool.and_false, Bool.and_true, s10], by simp (disch := first | (simp only [go_sem, Bool.and_self, eq_self]; done) | omega | (simp only [List.length_cons, List.length_nil]; omega)) only [go_sem, ↓reduceIte, Nat.reduceEqDiff, Nat.reduceAdd, Nat.reduceMul, Nat.reduceSub, Int.reduceToNat, Nat.reduceBEq, List.size_toArray, List.length_cons, List.length_nil, Bool.false_and, Bool.true_and, Bool.or_false, Bool.false_or, Bool.and_false, Bool.and_true, s9], rfl, false, by simp (disch := first | (simp only [go_sem, Bool.and_self, eq_self]; done) | omega | (simp only [List.length_cons, List.length_nil]; omega)) only [go_sem, ↓reduceIte, Nat.reduceEqDiff, Nat.reduceAdd, Nat.reduceMul, Nat.reduceSub, Int.reduceToNat, Nat.reduceBEq, List.size_toArray, List.length_cons, List.length_nil, Bool.false_and, Bool.true_and, Bool.or_false, Bool.false_or, Bool.and_false, Bool.and_true]⟩ ?_
        rintro j st h' hj s12 ⟨s4, s5, s6, s7, s8, s10, s9, rfl, b, s11⟩
        have hml := okp.2 _ (nth_mem hip)
        by_cases hjl : j < (nth p i).length
        case neg =>
          simp (disch := first | (simp only [go_sem, Bool.and_self, eq_self]; done) | omega | (simp only [List.length_cons, List.length_nil]; omega)) only [go_sem, ↓reduceIte, Nat.reduceEqDiff, Nat.reduceAdd, Nat.reduceMul, Nat.reduceSub, Int.reduceToNat, Nat.reduceBEq, List.size_toArray, List.length_cons, List.length_nil, Bool.false_and, Bool.true_and, Bool.or_false, Bool.false_or, Bool.and_false, Bool.and_true, s4, s5, s6, s7, s8, s10, s12, b2, hip, hjl]
          exact ⟨s9, b, s11⟩
        have k2 := fun h h'' K => k31 (h := h) (h' := h'') (K := K) (nth (nth p i) j) i (by omega)
        cases b with
        | true =>
          simp (disch := first | (simp only [go_sem, Bool.and_self, eq_self]; done) | omega | (simp only [List.length_cons, List.length_nil]; omega)) only [go_sem, ↓reduceIte, Nat.reduceEqDiff, Nat.reduceAdd, Nat.reduceMul, Nat.reduceSub, Int.reduceToNat, Nat.reduceBEq, List.size_toArray, List.length_cons, List.length_nil, Bool.false_and, Bool.true_and, Bool.or_false, Bool.false_or, Bool.and_false, Bool.and_true, s4, s5, s6, s7, s8, s10, s11, s12, b2, hip, hjl]
          rw [ForK_normal]
          exact ⟨hjl, by simp (disch := first | (simp only [go_sem, Bool.and_self, eq_self]; done) | omega | (simp only [List.length_cons, List.length_nil]; omega)) only [go_sem, ↓reduceIte, Nat.reduceEqDiff, Nat.reduceAdd, Nat.reduceMul, Nat.reduceSub, Int.reduceToNat, Nat.reduceBEq, List.size_toArray, List.length_cons, List.length_nil, Bool.false_and, Bool.true_and, Bool.or_false, Bool.false_or, Bool.and_false, Bool.and_true, s12], by simp (disch := first | (simp only [go_sem, Bool.and_self, eq_self]; done) | omega | (simp only [List.length_cons, List.length_nil]; omega)) only [go_sem, ↓reduceIte, Nat.reduceEqDiff, Nat.reduceAdd, Nat.reduceMul, Nat.reduceSub, Int.reduceToNat, Nat.reduceBEq, List.size_toArray, List.length_cons, List.length_nil, Bool.false_and, Bool.true_and, Bool.or_false, Bool.false_or, Bool.and_false, Bool.and_true, s4], by simp (disch := first | (simp only [go_sem, Bool.and_self, eq_self]; done) | omega | (simp only [List.length_cons, List.length_nil]; omega)) only [go_sem, ↓reduceIte, Nat.reduceEqDiff, Nat.reduceAdd, Nat.reduceMul, Nat.reduceSub, Int.reduceToNat, Nat.reduceBEq, List.size_toArray, List.length_cons, List.length_nil, Bool.false_and, Bool.true_and, Bool.or_false, Bool.false_or, Bool.and_false, Bool.and_true, s5], by simp (disch := first | (simp only [go_sem, Bool.and_self, eq_self]; done) | omega | (simp only [List.length_cons, List.length_nil]; omega)) only [go_sem, ↓reduceIte, Nat.reduceEqDiff, Nat.reduceAdd, Nat.reduceMul, Nat.reduceSub, Int.reduceToNat, Nat.reduceBEq, List.size_toArray, List.length_cons, List.length_nil, Bool.false_and, Bool.true_and, Bool.or_false, Bool.false_or, Bool.and_false, Bool.and_true, s6], by simp (disch := first | (simp only [go_sem, Bool.and_self, eq_self]; done) | omega | (simp only [List.length_cons, List.length_nil]; omega)) only [go_sem, ↓reduceIte, Nat.reduceEqDiff, Nat.reduceAdd, Nat.reduceMul, Nat.reduceSub, Int.reduceToNat, Nat.reduceBEq, List.size_toArray, List.length_cons, List.length_nil, Bool.false_and, Bool.true_and, Bool.or_false, Bool.false_or, Bool.and_false, Bool.and_true, s7], by simp (disch := first | (simp only [go_sem, Bool.and_self, eq_self]; done) | omega | (simp only [List.length_cons, List.length_nil]; omega)) only [go_sem, ↓reduceIte, Nat.reduceEqDiff, Nat.reduceAdd, Nat.reduceMul, Nat.reduceSub, Int.reduceToNat, Nat.reduceBEq, List.size_toArray, List.length_cons, List.length_nil, Bool.false_and, Bool.true_and, Bool.or_false, Bool.false_or, Bool.and_false, Bool.and_true, s8], by simp (disch := first | (simp only [go_sem, Bool.and_self, eq_self]; done) | omega | (simp only [List.length_cons, List.length_nil]; omega)) only [go_sem, ↓reduceIte, Nat.reduceEqDiff, Nat.reduceAdd, Nat.reduceMul, Nat.reduceSub, Int.reduceToNat, Nat.reduceBEq, List.size_toArray, List.length_cons, List.length_nil, Bool.false_and, Bool.true_and, Bool.or_false, Bool.false_or, Bool.and_false, Bool.and_true, s10], by simp (disch := first | (simp only [go_sem, Bool.and_self, eq_self]; done) | omega | (simp only [List.length_cons, List.length_nil]; omega)) only [go_sem, ↓reduceIte, Nat.reduceEqDiff, Nat.reduceAdd, Nat.reduceMul, Nat.reduceSub, Int.reduceToNat, Nat.reduceBEq, List.size_toArray, List.length_cons, List.length_nil, Bool.false_and, Bool.true_and, Bool.or_false, Bool.false_or, Bool.and_false, Bool.and_true, s9], rfl, true, by simp (disch := first | (simp only [go_sem, Bool.and_self, eq_self]; done) | omega | (simp only [List.length_cons, List.length_nil]; omega)) only [go_sem, ↓reduceIte, Nat.reduceEqDiff, Nat.reduceAdd, Nat.reduceMul, Nat.reduceSub, Int.reduceToNat, Nat.reduceBEq, List.size_toArray, List.length_cons, List.length_nil, Bool.false_and, Bool.true_and, Bool.or_false, Bool.false_or, Bool.and_false, Bool.and_true]⟩
        | false =>
          simp (disch := first | (simp only [go_sem, Bool.and_self, eq_self]; done) | omega | (simp only [List.length_cons, List.length_nil]; omega)) only [go_sem, ↓reduceIte, Nat.reduceEqDiff, Nat.reduceAdd, Nat.reduceMul, Nat.reduceSub, Int.reduceToNat, Nat.reduceBEq, List.size_toArray, List.length_cons, List.length_nil, Bool.false_and, Bool.true_and, Bool.or_false, Bool.false_or, Bool.and_false, Bool.and_true, s4, s5, s6, s7, s8, s10, s11, s12, b2, hip, hjl, k2]
          rw [ForK_normal]
          exact ⟨hjl, by simp (disch := first | (simp only [go_sem, Bool.and_self, eq_self]; done) | omega | (simp only [List.length_cons, List.length_nil]; omega)) only [go_sem, ↓reduceIte, Nat.reduceEqDiff, Nat.reduceAdd, Nat.reduceMul, Nat.reduceSub, Int.reduceToNat, Nat.reduceBEq, List.size_toArray, List.length_cons, List.length_nil, Bool.false_and, Bool.true_and, Bool.or_false, Bool.false_or, Bool.and_false, Bool.and_true, s12], by simp (disch := first | (simp only [go_sem, Bool.and_self, eq_self]; done) | omega | (simp only [List.length_cons, List.length_nil]; omega)) only [go_sem, ↓reduceIte, Nat.reduceEqDiff, Nat.reduceAdd, Nat.reduceMul, Nat.reduceSub, Int.reduceToNat, Nat.reduceBEq, List.size_toArray, List.length_cons, List.length_nil, Bool.false_and, Bool.true_and, Bool.or_false, Bool.false_or, Bool.and_false, Bool.and_true, s4], by simp (disch := first | (simp only [go_sem, Bool.and_self, eq_self]; done) | omega | (simp only [List.length_cons, List.length_nil]; omega)) only [go_sem, ↓reduceIte, Nat.reduceEqDiff, Nat.reduceAdd, Nat.reduceMul, Nat.reduceSub, Int.reduceToNat, Nat.reduceBEq, List.size_toArray, List.length_cons, List.length_nil, Bool.false_and, Bool.true_and, Bool.or_false, Bool.false_or, Bool.and_false, Bool.and_true, s5], by simp (disch := first | (simp only [go_sem, Bool.and_self, eq_self]; done) | omega | (simp only [List.length_cons, List.length_nil]; omega)) only [go_sem, ↓reduceIte, Nat.reduceEqDiff, Nat.reduceAdd, Nat.reduceMul, Nat.reduceSub, Int.reduceToNat, Nat.reduceBEq, List.size_toArray, List.length_cons, List.length_nil, Bool.false_and, Bool.true_and, Bool.or_false, Bool.false_or, Bool.and_false, Bool.and_true, s6], by simp (disch := first | (simp only [go_sem, Bool.and_self, eq_self]; done) | omega | (simp only [List.length_cons, List.length_nil]; omega)) only [go_sem, ↓reduceIte, Nat.reduceEqDiff, Nat.reduceAdd, Nat.reduceMul, Nat.reduceSub, Int.reduceToNat, Nat.reduceBEq, List.size_toArray, List.length_cons, List.length_nil, Bool.false_and, Bool.true_and, Bool.or_false, Bool.false_or, Bool.and_false, Bool.and_true, s7], by simp (disch := first | (simp only [go_sem, Bool.and_self, eq_self]; done) | omega | (simp only [List.length_cons, List.length_nil]; omega)) only [go_sem, ↓reduceIte, Nat.reduceEqDiff, Nat.reduceAdd, Nat.reduceMul, Nat.reduceSub, Int.reduceToNat, Nat.reduceBEq, List.size_toArray, List.length_cons, List.length_nil, Bool.false_and, Bool.true_and, Bool.or_false, Bool.false_or, Bool.and_false, Bool.and_true, s8], by simp (disch := first | (simp only [go_sem, Bool.and_self, eq_self]; done) | omega | (simp only [List.length_cons, List.length_nil]; omega)) only [go_sem, ↓reduceIte, Nat.reduceEqDiff, Nat.reduceAdd, Nat.reduceMul, Nat.reduceSub, Int.reduceToNat, Nat.reduceBEq, List.size_toArray, List.length_cons, List.length_nil, Bool.false_and, Bool.true_and, Bool.or_false, Bool.false_or, Bool.and_false, Bool.and_true, s10], by simp (disch := first | (simp only [go_sem, Bool.and_self, eq_self]; done) | omega | (simp only [List.length_cons, List.length_nil]; omega)) only [go_sem, ↓reduceIte, Nat.reduceEqDiff, Nat.reduceAdd, Nat.reduceMul, Nat.reduceSub, Int.reduceToNat, Nat.reduceBEq, List.size_toArray, List.length_cons, List.length_nil, Bool.false_and, Bool.true_and, Bool.or_false, Bool.false_or, Bool.and_false, Bool.and_true, s9], rfl, decide (modI (nth (nth p i) j) i = c), by simp (disch := first | (simp only [go_sem, Bool.and_self, eq_self]; done) | omega | (simp only [List.length_cons, List.length_nil]; omega)) only [go_sem, ↓reduceIte, Nat.reduceEqDiff, Nat.reduceAdd, Nat.reduceMul, Nat.reduceSub, Int.reduceToNat, Nat.reduceBEq, List.size_toArray, List.length_cons, List.length_nil, Bool.false_and, Bool.true_and, Bool.or_false, Bool.false_or, Bool.and_false, Bool.and_true]⟩
      rintro st h' ⟨s4, s5, s6, s7, s8, s10, s9, rfl, b, s11⟩
      have klen := fun lim => ox.lenB (e := 3) h' lim
      cases b with
      | false =>
        simp (disch := first | (simp only [go_sem, Bool.and_self, eq_self]; done) | omega | (simp only [List.length_cons, List.length_nil]; omega)) only [go_sem, ↓reduceIte, Nat.reduceEqDiff, Nat.reduceAdd, Nat.reduceMul, Nat.reduceSub, Int.reduceToNat, Nat.reduceBEq, List.size_toArray, List.length_cons, List.length_nil, Bool.false_and, Bool.true_and, Bool.or_false, Bool.false_or, Bool.and_false, Bool.and_true, s4, s5, s6, s7, s8, s10, s11]
        rw [ForK_normal]
        exact ⟨by omega, by simp (disch := first | (simp only [go_sem, Bool.and_self, eq_self]; done) | omega | (simp only [List.length_cons, List.length_nil]; omega)) only [go_sem, ↓reduceIte, Nat.reduceEqDiff, Nat.reduceAdd, Nat.reduceMul, Nat.reduceSub, Int.reduceToNat, Nat.reduceBEq, List.size_toArray, List.length_cons, List.length_nil, Bool.false_and, Bool.true_and, Bool.or_false, Bool.false_or, Bool.and_false, Bool.and_true, s10], by simp (disch := first | (simp only [go_sem, Bool.and_self, eq_self]; done) | omega | (simp only [List.length_cons, List.length_nil]; omega)) only [go_sem, ↓reduceIte, Nat.reduceEqDiff, Nat.reduceAdd, Nat.reduceMul, Nat.reduceSub, Int.reduceToNat, Nat.reduceBEq, List.size_toArray, List.length_cons, List.length_nil, Bool.false_and, Bool.true_and, Bool.or_false, Bool.false_or, Bool.and_false, Bool.and_true, s4], by simp (disch := first | (simp only [go_sem, Bool.and_self, eq_self]; done) | omega | (simp only [List.length_cons, List.length_nil]; omega)) only [go_sem, ↓reduceIte, Nat.reduceEqDiff, Nat.reduceAdd, Nat.reduceMul, Nat.reduceSub, Int.reduceToNat, Nat.reduceBEq, List.size_toArray, List.length_cons, List.length_nil, Bool.false_and, Bool.true_and, Bool.or_false, Bool.false_or, Bool.and_false, Bool.and_true, s5], by simp (disch := first | (simp only [go_sem, Bool.and_self, eq_self]; done) | omega | (simp only [List.length_cons, List.length_nil]; omega)) only [go_sem, ↓reduceIte, Nat.reduceEqDiff, Nat.reduceAdd, Nat.reduceMul, Nat.reduceSub, Int.reduceToNat, Nat.reduceBEq, List.size_toArray, List.length_cons, List.length_nil, Bool.false_and, Bool.true_and, Bool.or_false, Bool.false_or, Bool.and_false, Bool.and_true, s6], by simp (disch := first | (simp only [go_sem, Bool.and_self, eq_self]; done) | omega | (simp only [List.length_cons, List.length_nil]; omega)) only [go_sem, ↓reduceIte, Nat.reduceEqDiff, Nat.reduceAdd, Nat.reduceMul, Nat.reduceSub, Int.reduceToNat, Nat.reduceBEq, List.size_toArray, List.length_cons, List.length_nil, Bool.false_and, Bool.true_and, Bool.or_false, Bool.false_or, Bool.and_false, Bool.and_true, s7], by simp (disch := first | (simp only [go_sem, Bool.and_self, eq_self]; done) | omega | (simp only [List.length_cons, List.length_nil]; omega)) only [go_sem, ↓reduceIte, Nat.reduceEqDiff, Nat.reduceAdd, Nat.reduceMul, Nat.reduceSub, Int.reduceToNat, Nat.reduceBEq, List.size_toArray, List.length_cons, List.length_nil, Bool.false_and, Bool.true_and, Bool.or_false, Bool.false_or, Bool.and_false, Bool.and_true, s8], F, x, rr, by simp (disch := first | (simp only [go_sem, Bool.and_self, eq_self]; done) | omega | (simp only [List.length_cons, List.length_nil]; omega)) only [go_sem, ↓reduceIte, Nat.reduceEqDiff, Nat.reduceAdd, Nat.reduceMul, Nat.reduceSub, Int.reduceToNat, Nat.reduceBEq, List.size_toArray, List.length_cons, List.length_nil, Bool.false_and, Bool.true_and, Bool.or_false, Bool.false_or, Bool.and_false, Bool.and_true, s9], ox, ar.le (by omega), dv, dw⟩
      | true =>
      by_cases hr3 : rr.length < 3
      case neg =>
        have hr3' : ¬ (rr.length : Int) < 3 := by omega
        simp (disch := first | (simp only [go_sem, Bool.and_self, eq_self]; done) | omega | (simp only [List.length_cons, List.length_nil]; omega)) only [go_sem, ↓reduceIte, Nat.reduceEqDiff, Nat.reduceAdd, Nat.reduceMul, Nat.reduceSub, Int.reduceToNat, Nat.reduceBEq, List.size_toArray, List.length_cons, List.length_nil, Bool.false_and, Bool.true_and, Bool.or_false, Bool.false_or, Bool.and_false, Bool.and_true, s4, s5, s6, s7, s8, s9, s10, s11, klen, hr3']
        rw [ForK_normal]
        exact ⟨by omega, by simp (disch := first | (simp only [go_sem, Bool.and_self, eq_self]; done) | omega | (simp only [List.length_cons, List.length_nil]; omega)) only [go_sem, ↓reduceIte, Nat.reduceEqDiff, Nat.reduceAdd, Nat.reduceMul, Nat.reduceSub, Int.reduceToNat, Nat.reduceBEq, List.size_toArray, List.length_cons, List.length_nil, Bool.false_and, Bool.true_and, Bool.or_false, Bool.false_or, Bool.and_false, Bool.and_true, s10], by simp (disch := first | (simp only [go_sem, Bool.and_self, eq_self]; done) | omega | (simp only [List.length_cons, List.length_nil]; omega)) only [go_sem, ↓reduceIte, Nat.reduceEqDiff, Nat.reduceAdd, Nat.reduceMul, Nat.reduceSub, Int.reduceToNat, Nat.reduceBEq, List.size_toArray, List.length_cons, List.length_nil, Bool.false_and, Bool.true_and, Bool.or_false, Bool.false_or, Bool.and_false, Bool.and_true, s4], by simp (disch := first | (simp only [go_sem, Bool.and_self, eq_self]; done) | omega | (simp only [List.length_cons, List.length_nil]; omega)) only [go_sem, ↓reduceIte, Nat.reduceEqDiff, Nat.reduceAdd, Nat.reduceMul, Nat.reduceSub, Int.reduceToNat, Nat.reduceBEq, List.size_toArray, List.length_cons, List.length_nil, Bool.false_and, Bool.true_and, Bool.or_false, Bool.false_or, Bool.and_false, Bool.and_true, s5], by simp (disch := first | (simp only [go_sem, Bool.and_self, eq_self]; done) | omega | (simp only [List.length_cons, List.length_nil]; omega)) only [go_sem, ↓reduceIte, Nat.reduceEqDiff, Nat.reduceAdd, Nat.reduceMul, Nat.reduceSub, Int.reduceToNat, Nat.reduceBEq, List.size_toArray, List.length_cons, List.length_nil, Bool.false_and, Bool.true_and, Bool.or_false, Bool.false_or, Bool.and_false, Bool.and_true, s6], by simp (disch := first | (simp only [go_sem, Bool.and_self, eq_self]; done) | omega | (simp only [List.length_cons, List.length_nil]; omega)) only [go_sem, ↓reduceIte, Nat.reduceEqDiff, Nat.reduceAdd, Nat.reduceMul, Nat.reduceSub, Int.reduceToNat, Nat.reduceBEq, List.size_toArray, List.length_cons, List.length_nil, Bool.false_and, Bool.true_and, Bool.or_false, Bool.false_or, Bool.and_false, Bool.and_true, s7], by simp (disch := first | (simp only [go_sem, Bool.and_self, eq_self]; done) | omega | (simp only [List.length_cons, List.length_nil]; omega)) only [go_sem, ↓reduceIte, Nat.reduceEqDiff, Nat.reduceAdd, Nat.reduceMul, Nat.reduceSub, Int.reduceToNat, Nat.reduceBEq, List.size_toArray, List.length_cons, List.length_nil, Bool.false_and, Bool.true_and, Bool.or_false, Bool.false_or, Bool.and_false, Bool.and_true, s8], F, x, rr, by simp (disch := first | (simp only [go_sem, Bool.and_self, eq_self]; done) | omega | (simp only [List.length_cons, List.length_nil]; omega)) only [go_sem, ↓reduceIte, Nat.reduceEqDiff, Nat.reduceAdd, Nat.reduceMul, Nat.reduceSub, Int.reduceToNat, Nat.reduceBEq, List.size_toArray, List.length_cons, List.length_nil, Bool.false_and, Bool.true_and, Bool.or_false, Bool.false_or, Bool.and_false, Bool.and_true, s9], ox, ar.le (by omega), dv, dw⟩
      have happ := app_one (P := Try.prog) ox 3 8 (I 0) (c : Int) isz3 ibytes3 izero3 rfl (by omega) (by omega)
      have hbs := bsB_one (P := Try.prog) 3 (I c) (I c) (I 0) h' isz3 izero3 rfl rfl rfl rfl rfl rfl rfl
      have hr3' : (rr.length : Int) < 3 := by omega
      simp (disch := first | (simp only [go_sem, Bool.and_self, eq_self]; done) | omega | (simp only [List.length_cons, List.length_nil]; omega)) only [go_sem, ↓reduceIte, Nat.reduceEqDiff, Nat.reduceAdd, Nat.reduceMul, Nat.reduceSub, Int.reduceToNat, Nat.reduceBEq, List.size_toArray, List.length_cons, List.length_nil, Bool.false_and, Bool.true_and, Bool.or_false, Bool.false_or, Bool.and_false, Bool.and_true, s4, s5, s6, s7, s8, s9, s10, s11, klen, hr3', hbs, happ]
      rw [ForK_normal]
      have hdv := Own.dis (sz := 1) F.ov (rr ++ [(c : Int)]).length 1
      have hdw := Own.dis (sz := 1) F.ow (rr ++ [(c : Int)]).length 1
      refine ⟨by omega, by simp (disch := first | (simp only [go_sem, Bool.and_self, eq_self]; done) | omega | (simp only [List.length_cons, List.length_nil]; omega)) only [go_sem, ↓reduceIte, Nat.reduceEqDiff, Nat.reduceAdd, Nat.reduceMul, Nat.reduceSub, Int.reduceToNat, Nat.reduceBEq, List.size_toArray, List.length_cons, List.length_nil, Bool.false_and, Bool.true_and, Bool.or_false, Bool.false_or, Bool.and_false, Bool.and_true, s10], by simp (disch := first | (simp only [go_sem, Bool.and_self, eq_self]; done) | omega | (simp only [List.length_cons, List.length_nil]; omega)) only [go_sem, ↓reduceIte, Nat.reduceEqDiff, Nat.reduceAdd, Nat.reduceMul, Nat.reduceSub, Int.reduceToNat, Nat.reduceBEq, List.size_toArray, List.length_cons, List.length_nil, Bool.false_and, Bool.true_and, Bool.or_false, Bool.false_or, Bool.and_false, Bool.and_true, s4], by simp (disch := first | (simp only [go_sem, Bool.and_self, eq_self]; done) | omega | (simp only [List.length_cons, List.length_nil]; omega)) only [go_sem, ↓reduceIte, Nat.reduceEqDiff, Nat.reduceAdd, Nat.reduceMul, Nat.reduceSub, Int.reduceToNat, Nat.reduceBEq, List.size_toArray, List.length_cons, List.length_nil, Bool.false_and, Bool.true_and, Bool.or_false, Bool.false_or, Bool.and_false, Bool.and_true, s5], by simp (disch := first | (simp only [go_sem, Bool.and_self, eq_self]; done) | omega | (simp only [List.length_cons, List.length_nil]; omega)) only [go_sem, ↓reduceIte, Nat.reduceEqDiff, Nat.reduceAdd, Nat.reduceMul, Nat.reduceSub, Int.reduceToNat, Nat.reduceBEq, List.size_toArray, List.length_cons, List.length_nil, Bool.false_and, Bool.true_and, Bool.or_false, Bool.false_or, Bool.and_false, Bool.and_true, s6], by simp (disch := first | (simp only [go_sem, Bool.and_self, eq_self]; done) | omega | (simp only [List.length_cons, List.length_nil]; omega)) only [go_sem, ↓reduceIte, Nat.reduceEqDiff, Nat.reduceAdd, Nat.reduceMul, Nat.reduceSub, Int.reduceToNat, Nat.reduceBEq, List.size_toArray, List.length_cons, List.length_nil, Bool.false_and, Bool.true_and, Bool.or_false, Bool.false_or, Bool.and_false, Bool.and_true, s7], by simp (disch := first | (simp only [go_sem, Bool.and_self, eq_self]; done) | omega | (simp only [List.length_cons, List.length_nil]; omega)) only [go_sem, ↓reduceIte, Nat.reduceEqDiff, Nat.reduceAdd, Nat.reduceMul, Nat.reduceSub, Int.reduceToNat, Nat.reduceBEq, List.size_toArray, List.length_cons, List.length_nil, Bool.false_and, Bool.true_and, Bool.or_false, Bool.false_or, Bool.and_false, Bool.and_true, s8], F.mono (by rw [appH_nx]; omega) ox (fun b hb hne => appH_bl _ _ _ b hb hne) dv dw, _, rr ++ [(c : Int)], by simp (disch := first | (simp only [go_sem, Bool.and_self, eq_self]; done) | omega | (simp only [List.length_cons, List.length_nil]; omega)) only [go_sem, ↓reduceIte, Nat.reduceEqDiff, Nat.reduceAdd, Nat.reduceMul, Nat.reduceSub, Int.reduceToNat, Nat.reduceBEq, List.size_toArray, List.length_cons, List.length_nil, Bool.false_and, Bool.true_and, Bool.or_false, Bool.false_or, Bool.and_false, Bool.and_true], Own.app _ _ _, ?_, hdv, hdw⟩
      have := ar.snoc (by omega) hr3
      simpa using this
    rintro st h ⟨s4, s5, s6, s7, s8, F, x, rr, s9, ox, ar, dv, dw⟩
    have klen := fun h lim => ox.lenB (e := 3) h lim
    have hrl := ar.len
    have esh := fun t => shl_one (P := Try.prog) t rr.length (by omega)
    have hN : 2 ^ rr.length ≤ 8 := Nat.pow_le_pow_right (n := 2) (by decide) hrl
    obtain ⟨N, hNe⟩ : ∃ N, N = 2 ^ rr.length := ⟨_, rfl⟩
    rw [← hNe] at esh hN
    have hmk := fun h => makeB_int (P := Try.prog) (h := h) 3 (N : Int) isz3 ibytes3 izero3 (by omega) (by omega)
    have hxc := own_cell ox
    simp (disch := first | (simp only [go_sem, Bool.and_self, eq_self]; done) | omega | (simp only [List.length_cons, List.length_nil]; omega)) only [go_sem, ↓reduceIte, Nat.reduceEqDiff, Nat.reduceAdd, Nat.reduceMul, Nat.reduceSub, Int.reduceToNat, Nat.reduceBEq, List.size_toArray, List.length_cons, List.length_nil, Bool.false_and, Bool.true_and, Bool.or_false, Bool.false_or, Bool.and_false, Bool.and_true, s4, s5, s6, s7, s8, s9, klen, esh, hmk, Int.toNat_natCast]
    have ydv : Dis (.sl h.nx 0 N 1) v := F.ov.dis N 1
    have ydw : Dis (.sl h.nx 0 N 1) w := F.ow.dis N 1
    have ydx : Dis (.sl h.nx 0 N 1) x := ox.dis N 1
    have hnx4 := F.nx
    obtain ⟨id, hid⟩ : ∃ id, id = h.nx := ⟨_, rfl⟩
    rw [← hid] at ydv ydw ydx
    refine WP_cut (fun st h => st 4 = .ptr 1 0 ∧ st 5 = .ptr 2 0 ∧ st 6 = I k ∧ st 7 = .ptr 3 0 ∧ st 8 = I i ∧ st 9 = x ∧ st 13 = .sl id 0 N 1 ∧ TF pv tv P T v w h ∧ Own (e1 I) 1 h x rr ∧ ∃ ts : List Int, ts.length = N ∧ id < h.nx ∧ h.bl id = some (.cells false true (ts.flatMap (e1 I))) ∧ ∀ j, j < N → 0 ≤ nth ts j ∧ nth ts j ≤ 16) ?_ ?_
    · refine WP_for 14 N (fun n st h => st 4 = .ptr 1 0 ∧ st 5 = .ptr 2 0 ∧ st 6 = I k ∧ st 7 = .ptr 3 0 ∧ st 8 = I i ∧ st 9 = x ∧ st 13 = .sl id 0 N 1 ∧ TF pv tv P T v w h ∧ Own (e1 I) 1 h x rr ∧ ∃ ts : List Int, ts.length = N ∧ id < h.nx ∧ h.bl id = some (.cells false true (ts.flatMap (e1 I))) ∧ ∀ j, j < n → 0 ≤ nth ts j ∧ nth ts j ≤ 16) (by simp (disch := first | (simp only [go_sem, Bool.and_self, eq_self]; done) | omega | (simp only [List.length_cons, List.length_nil]; omega)) only [go_sem, ↓reduceIte, Nat.reduceEqDiff, Nat.reduceAdd, Nat.reduceMul, Nat.reduceSub, Int.reduceToNat, Nat.reduceBEq, List.size_toArray, List.length_cons, List.length_nil, Bool.false_and, Bool.true_and, Bool.or_false, Bool.false_or, Bool.and_false, Bool.and_true]) ⟨by simp (disch := first | (simp only [go_sem, Bool.and_self, eq_self]; done) | omega | (simp only [List.length_cons, List.length_nil]; omega)) only [go_sem, ↓reduceIte, Nat.reduceEqDiff, Nat.reduceAdd, Nat.reduceMul, Nat.reduceSub, Int.reduceToNat, Nat.reduceBEq, List.size_toArray, List.length_cons, List.length_nil, Bool.false_and, Bool.true_and, Bool.or_false, Bool.false_or, Bool.and_false, Bool.and_true, s4, s5, s6, s7, s8], by simp (disch := first | (simp only [go_sem, Bool.and_self, eq_self]; done) | omega | (simp only [List.length_cons, List.length_nil]; omega)) only [go_sem, ↓reduceIte, Nat.reduceEqDiff, Nat.reduceAdd, Nat.reduceMul, Nat.reduceSub, Int.reduceToNat, Nat.reduceBEq, List.size_toArray, List.length_cons, List.length_nil, Bool.false_and, Bool.true_and, Bool.or_false, Bool.false_or, Bool.and_false, Bool.and_true, s4, s5, s6, s7, s8], by simp (disch := first | (simp only [go_sem, Bool.and_self, eq_self]; done) | omega | (simp only [List.length_cons, List.length_nil]; omega)) only [go_sem, ↓reduceIte, Nat.reduceEqDiff, Nat.reduceAdd, Nat.reduceMul, Nat.reduceSub, Int.reduceToNat, Nat.reduceBEq, List.size_toArray, List.length_cons, List.length_nil, Bool.false_and, Bool.true_and, Bool.or_false, Bool.false_or, Bool.and_false, Bool.and_true, s4, s5, s6, s7, s8], by simp (disch := first | (simp only [go_sem, Bool.and_self, eq_self]; done) | omega | (simp only [List.length_cons, List.length_nil]; omega)) only [go_sem, ↓reduceIte, Nat.reduceEqDiff, Nat.reduceAdd, Nat.reduceMul, Nat.reduceSub, Int.reduceToNat, Nat.reduceBEq, List.size_toArray, List.length_cons, List.length_nil, Bool.false_and, Bool.true_and, Bool.or_false, Bool.false_or, Bool.and_false, Bool.and_true, s4, s5, s6, s7, s8], by simp (disch := first | (simp only [go_sem, Bool.and_self, eq_self]; done) | omega | (simp only [List.length_cons, List.length_nil]; omega)) only [go_sem, ↓reduceIte, Nat.reduceEqDiff, Nat.reduceAdd, Nat.reduceMul, Nat.reduceSub, Int.reduceToNat, Nat.reduceBEq, List.size_toArray, List.length_cons, List.length_nil, Bool.false_and, Bool.true_and, Bool.or_false, Bool.false_or, Bool.and_false, Bool.and_true, s4, s5, s6, s7, s8], by simp (disch := first | (simp only [go_sem, Bool.and_self, eq_self]; done) | omega | (simp only [List.length_cons, List.length_nil]; omega)) only [go_sem, ↓reduceIte, Nat.reduceEqDiff, Nat.reduceAdd, Nat.reduceMul, Nat.reduceSub, Int.reduceToNat, Nat.reduceBEq, List.size_toArray, List.length_cons, List.length_nil, Bool.false_and, Bool.true_and, Bool.or_false, Bool.false_or, Bool.and_false, Bool.and_true, s9], by simp (disch := first | (simp only [go_sem, Bool.and_self, eq_self]; done) | omega | (simp only [List.length_cons, List.length_nil]; omega)) only [go_sem, ↓reduceIte, Nat.reduceEqDiff, Nat.reduceAdd, Nat.reduceMul, Nat.reduceSub, Int.reduceToNat, Nat.reduceBEq, List.size_toArray, List.length_cons, List.length_nil, Bool.false_and, Bool.true_and, Bool.or_false, Bool.false_or, Bool.and_false, Bool.and_true, hid], F.alloc _, ?_, List.replicate N 0, by simp, by simp (disch := first | (simp only [go_sem, Bool.and_self, eq_self]; done) | omega | (simp only [List.length_cons, List.length_nil]; omega)) only [go_sem, ↓reduceIte, Nat.reduceEqDiff, Nat.reduceAdd, Nat.reduceMul, Nat.reduceSub, Int.reduceToNat, Nat.reduceBEq, List.size_toArray, List.length_cons, List.length_nil, Bool.false_and, Bool.true_and, Bool.or_false, Bool.false_or, Bool.and_false, Bool.and_true, hid]; omega, by simp (disch := first | (simp only [go_sem, Bool.and_self, eq_self]; done) | omega | (simp only [List.length_cons, List.length_nil]; omega)) only [go_sem, ↓reduceIte, Nat.reduceEqDiff, Nat.reduceAdd, Nat.reduceMul, Nat.reduceSub, Int.reduceToNat, Nat.reduceBEq, List.size_toArray, List.length_cons, List.length_nil, Bool.false_and, Bool.true_and, Bool.or_false, Bool.false_or, Bool.and_false, Bool.and_true, hid], by omega⟩ ?_
      · exact ox.mono (by simp [Hp.alloc]) fun i hi => by simp [Hp.alloc, show ¬ i = h.nx by omega]
      rintro n st h hn s14 ⟨s4, s5, s6, s7, s8, s9, s13, F, ox, ts, tsl, hidn, bid, hts⟩
      by_cases hnN : n < N
      case neg =>
        have hnn : N = n := by omega
        simp (disch := first | (simp only [go_sem, Bool.and_self, eq_self]; done) | omega | (simp only [List.length_cons, List.length_nil]; omega)) only [go_sem, ↓reduceIte, Nat.reduceEqDiff, Nat.reduceAdd, Nat.reduceMul, Nat.reduceSub, Int.reduceToNat, Nat.reduceBEq, List.size_toArray, List.length_cons, List.length_nil, Bool.false_and, Bool.true_and, Bool.or_false, Bool.false_or, Bool.and_false, Bool.and_true, s4, s5, s6, s7, s8, s13, s14, hnN]
        exact ⟨s9, F, ox, ts, tsl, hidn, bid, fun j hj => hts j (by omega)⟩
      have b2 := F.b2
      have i2 : ¬ 2 = id := fun h => by rw [← h] at bid; rw [b2] at bid; cases bid
      have put1 : ∀ (h : Hp) (ts : List Int) (b : Blk), TF pv tv P T v w h → Own (e1 I) 1 h x rr → id < h.nx → h.bl id = some (.cells false true (ts.flatMap (e1 I))) → ts.length = N → TF pv tv P T v w (h.put id (some b)) ∧ Own (e1 I) 1 (h.put id (some b)) x rr := fun h ts b F ox hidn bid tsl => by
        have hb : ∀ i, i < h.nx → (∀ id' off n sz', AV.sl id 0 N 1 = .sl id' off n sz' → i ≠ id') → (h.put id (some b)).bl i = h.bl i := fun i _ hne => by simp [Hp.put, hne _ _ _ _ rfl]
        have oy : Own (e1 I) 1 h (.sl id 0 N 1) ts := .inr ⟨id, by rw [tsl], hidn, bid⟩
        exact ⟨F.mono (Nat.le_refl _) oy hb ydv ydw, Own.keepX ox (Nat.le_refl _) hb ydx⟩
      have fin : ∀ (u : Int), 0 ≤ u ∧ u ≤ 16 → (ts.set n u).length = N ∧ ∀ j, j < n + 1 → 0 ≤ nth (ts.set n u) j ∧ nth (ts.set n u) j ≤ 16 := fun u hu => ⟨by simpa using tsl, fun j hj => by
        rw [nth_set _ _ _ _ (by omega)]
        split
        · exact hu
        · exact hts j (by omega)⟩
      have hset : n < ts.length := by omega
      obtain ⟨F8, o8⟩ := put1 h ts (.cells false true ((ts.set n 8).flatMap (e1 I))) F ox hidn bid tsl
      have f8 := fin 8 (by omega)
      by_cases hit : i < t.length
      case neg =>
        simp (disch := first | (simp only [go_sem, Bool.and_self, eq_self]; done) | omega | (simp only [List.length_cons, List.length_nil]; omega)) only [go_sem, ↓reduceIte, Nat.reduceEqDiff, Nat.reduceAdd, Nat.reduceMul, Nat.reduceSub, Int.reduceToNat, Nat.reduceBEq, List.size_toArray, List.length_cons, List.length_nil, Bool.false_and, Bool.true_and, Bool.or_false, Bool.false_or, Bool.and_false, Bool.and_true, s4, s5, s6, s7, s8, s13, s14, hnN, hset, bid, b2, klt, hit, i2]
        rw [ForK_normal]
        exact ⟨by omega, by simp (disch := first | (simp only [go_sem, Bool.and_self, eq_self]; done) | omega | (simp only [List.length_cons, List.length_nil]; omega)) only [go_sem, ↓reduceIte, Nat.reduceEqDiff, Nat.reduceAdd, Nat.reduceMul, Nat.reduceSub, Int.reduceToNat, Nat.reduceBEq, List.size_toArray, List.length_cons, List.length_nil, Bool.false_and, Bool.true_and, Bool.or_false, Bool.false_or, Bool.and_false, Bool.and_true, s14], by simp (disch := first | (simp only [go_sem, Bool.and_self, eq_self]; done) | omega | (simp only [List.length_cons, List.length_nil]; omega)) only [go_sem, ↓reduceIte, Nat.reduceEqDiff, Nat.reduceAdd, Nat.reduceMul, Nat.reduceSub, Int.reduceToNat, Nat.reduceBEq, List.size_toArray, List.length_cons, List.length_nil, Bool.false_and, Bool.true_and, Bool.or_false, Bool.false_or, Bool.and_false, Bool.and_true, s4], by simp (disch := first | (simp only [go_sem, Bool.and_self, eq_self]; done) | omega | (simp only [List.length_cons, List.length_nil]; omega)) only [go_sem, ↓reduceIte, Nat.reduceEqDiff, Nat.reduceAdd, Nat.reduceMul, Nat.reduceSub, Int.reduceToNat, Nat.reduceBEq, List.size_toArray, List.length_cons, List.length_nil, Bool.false_and, Bool.true_and, Bool.or_false, Bool.false_or, Bool.and_false, Bool.and_true, s5], by simp (disch := first | (simp only [go_sem, Bool.and_self, eq_self]; done) | omega | (simp only [List.length_cons, List.length_nil]; omega)) only [go_sem, ↓reduceIte, Nat.reduceEqDiff, Nat.reduceAdd, Nat.reduceMul, Nat.reduceSub, Int.reduceToNat, Nat.reduceBEq, List.size_toArray, List.length_cons, List.length_nil, Bool.false_and, Bool.true_and, Bool.or_false, Bool.false_or, Bool.and_false, Bool.and_true, s6], by simp (disch := first | (simp only [go_sem, Bool.and_self, eq_self]; done) | omega | (simp only [List.length_cons, List.length_nil]; omega)) only [go_sem, ↓reduceIte, Nat.reduceEqDiff, Nat.reduceAdd, Nat.reduceMul, Nat.reduceSub, Int.reduceToNat, Nat.reduceBEq, List.size_toArray, List.length_cons, List.length_nil, Bool.false_and, Bool.true_and, Bool.or_false, Bool.false_or, Bool.and_false, Bool.and_true, s7], by simp (disch := first | (simp only [go_sem, Bool.and_self, eq_self]; done) | omega | (simp only [List.length_cons, List.length_nil]; omega)) only [go_sem, ↓reduceIte, Nat.reduceEqDiff, Nat.reduceAdd, Nat.reduceMul, Nat.reduceSub, Int.reduceToNat, Nat.reduceBEq, List.size_toArray, List.length_cons, List.length_nil, Bool.false_and, Bool.true_and, Bool.or_false, Bool.false_or, Bool.and_false, Bool.and_true, s8], by simp (disch := first | (simp only [go_sem, Bool.and_self, eq_self]; done) | omega | (simp only [List.length_cons, List.length_nil]; omega)) only [go_sem, ↓reduceIte, Nat.reduceEqDiff, Nat.reduceAdd, Nat.reduceMul, Nat.reduceSub, Int.reduceToNat, Nat.reduceBEq, List.size_toArray, List.length_cons, List.length_nil, Bool.false_and, Bool.true_and, Bool.or_false, Bool.false_or, Bool.and_false, Bool.and_true, s9], by simp (disch := first | (simp only [go_sem, Bool.and_self, eq_self]; done) | omega | (simp only [List.length_cons, List.length_nil]; omega)) only [go_sem, ↓reduceIte, Nat.reduceEqDiff, Nat.reduceAdd, Nat.reduceMul, Nat.reduceSub, Int.reduceToNat, Nat.reduceBEq, List.size_toArray, List.length_cons, List.length_nil, Bool.false_and, Bool.true_and, Bool.or_false, Bool.false_or, Bool.and_false, Bool.and_true, s13], F8, o8, ts.set n 8, f8.1, hidn, by simp (disch := first | (simp only [go_sem, Bool.and_self, eq_self]; done) | omega | (simp only [List.length_cons, List.length_nil]; omega)) only [go_sem, ↓reduceIte, Nat.reduceEqDiff, Nat.reduceAdd, Nat.reduceMul, Nat.reduceSub, Int.reduceToNat, Nat.reduceBEq, List.size_toArray, List.length_cons, List.length_nil, Bool.false_and, Bool.true_and, Bool.or_false, Bool.false_or, Bool.and_false, Bool.and_true], f8.2⟩
      have hte := ltv.some hit
      rw [hte] at b2
      have hml := okt.2 _ (nth_mem hit)
      by_cases hnt : n < (nth t i).length
      case neg =>
        simp (disch := first | (simp only [go_sem, Bool.and_self, eq_self]; done) | omega | (simp only [List.length_cons, List.length_nil]; omega)) only [go_sem, ↓reduceIte, Nat.reduceEqDiff, Nat.reduceAdd, Nat.reduceMul, Nat.reduceSub, Int.reduceToNat, Nat.reduceBEq, List.size_toArray, List.length_cons, List.length_nil, Bool.false_and, Bool.true_and, Bool.or_false, Bool.false_or, Bool.and_false, Bool.and_true, s4, s5, s6, s7, s8, s13, s14, hnN, hset, bid, b2, hit, hnt, i2]
        rw [ForK_normal]
        exact ⟨by omega, by simp (disch := first | (simp only [go_sem, Bool.and_self, eq_self]; done) | omega | (simp only [List.length_cons, List.length_nil]; omega)) only [go_sem, ↓reduceIte, Nat.reduceEqDiff, Nat.reduceAdd, Nat.reduceMul, Nat.reduceSub, Int.reduceToNat, Nat.reduceBEq, List.size_toArray, List.length_cons, List.length_nil, Bool.false_and, Bool.true_and, Bool.or_false, Bool.false_or, Bool.and_false, Bool.and_true, s14], by simp (disch := first | (simp only [go_sem, Bool.and_self, eq_self]; done) | omega | (simp only [List.length_cons, List.length_nil]; omega)) only [go_sem, ↓reduceIte, Nat.reduceEqDiff, Nat.reduceAdd, Nat.reduceMul, Nat.reduceSub, Int.reduceToNat, Nat.reduceBEq, List.size_toArray, List.length_cons, List.length_nil, Bool.false_and, Bool.true_and, Bool.or_false, Bool.false_or, Bool.and_false, Bool.and_true, s4], by simp (disch := first | (simp only [go_sem, Bool.and_self, eq_self]; done) | omega | (simp only [List.length_cons, List.length_nil]; omega)) only [go_sem, ↓reduceIte, Nat.reduceEqDiff, Nat.reduceAdd, Nat.reduceMul, Nat.reduceSub, Int.reduceToNat, Nat.reduceBEq, List.size_toArray, List.length_cons, List.length_nil, Bool.false_and, Bool.true_and, Bool.or_false, Bool.false_or, Bool.and_false, Bool.and_true, s5], by simp (disch := first | (simp only [go_sem, Bool.and_self, eq_self]; done) | omega | (simp only [List.length_cons, List.length_nil]; omega)) only [go_sem, ↓reduceIte, Nat.reduceEqDiff, Nat.reduceAdd, Nat.reduceMul, Nat.reduceSub, Int.reduceToNat, Nat.reduceBEq, List.size_toArray, List.length_cons, List.length_nil, Bool.false_and, Bool.true_and, Bool.or_false, Bool.false_or, Bool.and_false, Bool.and_true, s6], by simp (disch := first | (simp only [go_sem, Bool.and_self, eq_self]; done) | omega | (simp only [List.length_cons, List.length_nil]; omega)) only [go_sem, ↓reduceIte, Nat.reduceEqDiff, Nat.reduceAdd, Nat.reduceMul, Nat.reduceSub, Int.reduceToNat, Nat.reduceBEq, List.size_toArray, List.length_cons, List.length_nil, Bool.false_and, Bool.true_and, Bool.or_false, Bool.false_or, Bool.and_false, Bool.and_true, s7], by simp (disch := first | (simp only [go_sem, Bool.and_self, eq_self]; done) | omega | (simp only [List.length_cons, List.length_nil]; omega)) only [go_sem, ↓reduceIte, Nat.reduceEqDiff, Nat.reduceAdd, Nat.reduceMul, Nat.reduceSub, Int.reduceToNat, Nat.reduceBEq, List.size_toArray, List.length_cons, List.length_nil, Bool.false_and, Bool.true_and, Bool.or_false, Bool.false_or, Bool.and_false, Bool.and_true, s8], by simp (disch := first | (simp only [go_sem, Bool.and_self, eq_self]; done) | omega | (simp only [List.length_cons, List.length_nil]; omega)) only [go_sem, ↓reduceIte, Nat.reduceEqDiff, Nat.reduceAdd, Nat.reduceMul, Nat.reduceSub, Int.reduceToNat, Nat.reduceBEq, List.size_toArray, List.length_cons, List.length_nil, Bool.false_and, Bool.true_and, Bool.or_false, Bool.false_or, Bool.and_false, Bool.and_true, s9], by simp (disch := first | (simp only [go_sem, Bool.and_self, eq_self]; done) | omega | (simp only [List.length_cons, List.length_nil]; omega)) only [go_sem, ↓reduceIte, Nat.reduceEqDiff, Nat.reduceAdd, Nat.reduceMul, Nat.reduceSub, Int.reduceToNat, Nat.reduceBEq, List.size_toArray, List.length_cons, List.length_nil, Bool.false_and, Bool.true_and, Bool.or_false, Bool.false_or, Bool.and_false, Bool.and_true, s13], F8, o8, ts.set n 8, f8.1, hidn, by simp (disch := first | (simp only [go_sem, Bool.and_self, eq_self]; done) | omega | (simp only [List.length_cons, List.length_nil]; omega)) only [go_sem, ↓reduceIte, Nat.reduceEqDiff, Nat.reduceAdd, Nat.reduceMul, Nat.reduceSub, Int.reduceToNat, Nat.reduceBEq, List.size_toArray, List.length_cons, List.length_nil, Bool.false_and, Bool.true_and, Bool.or_false, Bool.false_or, Bool.and_false, Bool.and_true], f8.2⟩
      have k2 := fun h h'' K => k31 (h := h) (h' := h'') (K := K) (nth (nth t i) n) 17 (by decide)
      have hmo := modI_bounds (nth (nth t i) n) (n := 17) (by decide)
      have hset2 : n < (ts.set n 8).length := by omega
      obtain ⟨F9, o9⟩ := put1 (h.put id (some (.cells false true ((ts.set n 8).flatMap (e1 I))))) (ts.set n 8) (.cells false true (((ts.set n 8).set n (modI (nth (nth t i) n) 17)).flatMap (e1 I))) F8 o8 hidn (by simp [Hp.put]) f8.1
      have f9 := fin (modI (nth (nth t i) n) 17) (by omega)
      rw [← show (ts.set n 8).set n (modI (nth (nth t i) n) 17) = ts.set n (modI (nth (nth t i) n) 17) by simp] at f9
      simp (disch := first | (simp only [go_sem, Bool.and_self, eq_self]; done) | omega | (simp only [List.length_cons, List.length_nil]; omega)) only [go_sem, ↓reduceIte, Nat.reduceEqDiff, Nat.reduceAdd, Nat.reduceMul, Nat.reduceSub, Int.reduceToNat, Nat.reduceBEq, List.size_toArray, List.length_cons, List.length_nil, Bool.false_and, Bool.true_and, Bool.or_false, Bool.false_or, Bool.and_false, Bool.and_true, s4, s5, s6, s7, s8, s13, s14, hnN, hset, hset2, bid, b2, hit, hnt, i2, k2]
      rw [ForK_normal]
      exact ⟨by omega, by simp (disch := first | (simp only [go_sem, Bool.and_self, eq_self]; done) | omega | (simp only [List.length_cons, List.length_nil]; omega)) only [go_sem, ↓reduceIte, Nat.reduceEqDiff, Nat.reduceAdd, Nat.reduceMul, Nat.reduceSub, Int.reduceToNat, Nat.reduceBEq, List.size_toArray, List.length_cons, List.length_nil, Bool.false_and, Bool.true_and, Bool.or_false, Bool.false_or, Bool.and_false, Bool.and_true, s14], by simp (disch := first | (simp only [go_sem, Bool.and_self, eq_self]; done) | omega | (simp only [List.length_cons, List.length_nil]; omega)) only [go_sem, ↓reduceIte, Nat.reduceEqDiff, Nat.reduceAdd, Nat.reduceMul, Nat.reduceSub, Int.reduceToNat, Nat.reduceBEq, List.size_toArray, List.length_cons, List.length_nil, Bool.false_and, Bool.true_and, Bool.or_false, Bool.false_or, Bool.and_false, Bool.and_true, s4], by simp (disch := first | (simp only [go_sem, Bool.and_self, eq_self]; done) | omega | (simp only [List.length_cons, List.length_nil]; omega)) only [go_sem, ↓reduceIte, Nat.reduceEqDiff, Nat.reduceAdd, Nat.reduceMul, Nat.reduceSub, Int.reduceToNat, Nat.reduceBEq, List.size_toArray, List.length_cons, List.length_nil, Bool.false_and, Bool.true_and, Bool.or_false, Bool.false_or, Bool.and_false, Bool.and_true, s5], by simp (disch := first | (simp only [go_sem, Bool.and_self, eq_self]; done) | omega | (simp only [List.length_cons, List.length_nil]; omega)) only [go_sem, ↓reduceIte, Nat.reduceEqDiff, Nat.reduceAdd, Nat.reduceMul, Nat.reduceSub, Int.reduceToNat, Nat.reduceBEq, List.size_toArray, List.length_cons, List.length_nil, Bool.false_and, Bool.true_and, Bool.or_false, Bool.false_or, Bool.and_false, Bool.and_true, s6], by simp (disch := first | (simp only [go_sem, Bool.and_self, eq_self]; done) | omega | (simp only [List.length_cons, List.length_nil]; omega)) only [go_sem, ↓reduceIte, Nat.reduceEqDiff, Nat.reduceAdd, Nat.reduceMul, Nat.reduceSub, Int.reduceToNat, Nat.reduceBEq, List.size_toArray, List.length_cons, List.length_nil, Bool.false_and, Bool.true_and, Bool.or_false, Bool.false_or, Bool.and_false, Bool.and_true, s7], by simp (disch := first | (simp only [go_sem, Bool.and_self, eq_self]; done) | omega | (simp only [List.length_cons, List.length_nil]; omega)) only [go_sem, ↓reduceIte, Nat.reduceEqDiff, Nat.reduceAdd, Nat.reduceMul, Nat.reduceSub, Int.reduceToNat, Nat.reduceBEq, List.size_toArray, List.length_cons, List.length_nil, Bool.false_and, Bool.true_and, Bool.or_false, Bool.false_or, Bool.and_false, Bool.and_true, s8], by simp (disch := first | (simp only [go_sem, Bool.and_self, eq_self]; done) | omega | (simp only [List.length_cons, List.length_nil]; omega)) only [go_sem, ↓reduceIte, Nat.reduceEqDiff, Nat.reduceAdd, Nat.reduceMul, Nat.reduceSub, Int.reduceToNat, Nat.reduceBEq, List.size_toArray, List.length_cons, List.length_nil, Bool.false_and, Bool.true_and, Bool.or_false, Bool.false_or, Bool.and_false, Bool.and_true, s9], by simp (disch := first | (simp only [go_sem, Bool.and_self, eq_self]; done) | omega | (simp only [List.length_cons, List.length_nil]; omega)) only [go_sem, ↓reduceIte, Nat.reduceEqDiff, Nat.reduceAdd, Nat.reduceMul, Nat.reduceSub, Int.reduceToNat, Nat.reduceBEq, List.size_toArray, List.length_cons, List.length_nil, Bool.false_and, Bool.true_and, Bool.or_false, Bool.false_or, Bool.and_false, Bool.and_true, s13], F9, o9, _, f9.1, hidn, by simp (disch := first | (simp only [go_sem, Bool.and_self, eq_self]; done) | omega | (simp only [List.length_cons, List.length_nil]; omega)) only [go_sem, ↓reduceIte, Nat.reduceEqDiff, Nat.reduceAdd, Nat.reduceMul, Nat.reduceSub, Int.reduceToNat, Nat.reduceBEq, List.size_toArray, List.length_cons, List.length_nil, Bool.false_and, Bool.true_and, Bool.or_false, Bool.false_or, Bool.and_false, Bool.and_true], f9.2⟩
    rintro st h ⟨s4, s5, s6, s7, s8, s9, s13, F, ox, ts, tsl, hidn, bid, hts⟩
    have oy : Own (e1 I) 1 h (.sl id 0 N 1) ts := .inr ⟨id, by rw [tsl], hidn, bid⟩
    obtain ⟨h1, hs1, hn1, hb1⟩ := sealA_Own ox
    have F1 := F.mono (h' := h1) (by omega) ox (fun b _ hne => hb1 b hne) dv dw
    have oy1 : Own (e1 I) 1 h1 (.sl id 0 N 1) ts := Own.keepX oy (by omega) (fun b _ hne => hb1 b hne) ydx.symm
    have hbs1 := bsB_one (P := Try.prog) 25 x (LI rr) .nil h1 isz25 izero25 rfl rfl rfl hs1 rfl rfl (pure_L _)
    have hap1 := app_one (P := Try.prog) F1.ov 25 24 .nil rr isz25 ibytes25 izero25 rfl (by omega) (by omega)
    have hF1n := F1.nx
    have c1 := (appH_bl h1 v ((P ++ [rr]).flatMap (e1 LI)) 1 (by omega) (own_ne F1.ov F1.b1)).trans F1.b1
    have c2 := (appH_bl h1 v ((P ++ [rr]).flatMap (e1 LI)) 2 (by omega) (own_ne F1.ov F1.b2)).trans F1.b2
    have c3 := (appH_bl h1 v ((P ++ [rr]).flatMap (e1 LI)) 3 (by omega) (own_ne F1.ov F1.b3)).trans F1.b3
    have cn := appH_nx h1 v ((P ++ [rr]).flatMap (e1 LI))
    have oV := Own.app (f := e1 LI) (sz := 1) h1 v (P ++ [rr])
    have ow1 := Own.keep F1.ow F1.d ((P ++ [rr]).flatMap (e1 LI))
    have oy2 := Own.keep oy1 ydv.symm ((P ++ [rr]).flatMap (e1 LI))
    have dVw := Own.dis F1.ow (P ++ [rr]).length 1
    have dVy := Own.dis oy1 (P ++ [rr]).length 1
    generalize appH h1 v ((P ++ [rr]).flatMap (e1 LI)) = G1 at hap1 c1 c2 c3 cn oV ow1 oy2
    generalize appV h1 (P ++ [rr]).length 1 = V at hap1 oV dVw dVy
    have hV := own_cell oV
    have hst1 : storeC G1 3 0 1 (some (.cells false false [v, w])) V.cells = some (.skp, G1.put 3 (some (.cells false false [V, w]))) := store_fst hV
    have oV2 := own_put oV c3 (some (.cells false false [V, w]))
    have ow2 := own_put ow1 c3 (some (.cells false false [V, w]))
    have oy3 := own_put oy2 c3 (some (.cells false false [V, w]))
    have d1 : (G1.put 3 (some (.cells false false [V, w]))).bl 1 = some (.cells false false [.nil, .nil]) := by rw [put_bl, if_neg (by decide)]; exact c1
    have d2 : (G1.put 3 (some (.cells false false [V, w]))).bl 2 = some (.cells false false [pv, tv]) := by rw [put_bl, if_neg (by decide)]; exact c2
    have d3 : (G1.put 3 (some (.cells false false [V, w]))).bl 3 = some (.cells false false [V, w]) := by rw [put_bl, if_pos rfl]
    have dn : (G1.put 3 (some (.cells false false [V, w]))).nx = h1.nx + 1 := cn
    generalize G1.put 3 (some (.cells false false [V, w])) = G2 at hst1 oV2 ow2 oy3 d1 d2 d3 dn
    obtain ⟨h2, hs2, hn2, hb2⟩ := sealA_Own oy3
    have oV3 : Own (e1 LI) 1 h2 V (P ++ [rr]) := Own.keepX oV2 (by omega) (fun b _ hne => hb2 b hne) dVy.symm
    have ow3 : Own (e1 LI) 1 h2 w T := Own.keepX ow2 (by omega) (fun b _ hne => hb2 b hne) ydw
    have g1 := (hb2 1 (own_ne oy3 d1)).trans d1
    have g2 := (hb2 2 (own_ne oy3 d2)).trans d2
    have g3 := (hb2 3 (own_ne oy3 d3)).trans d3
    have hbs2 := bsB_one (P := Try.prog) 25 (.sl id 0 N 1) (LI ts) .nil h2 isz25 izero25 rfl rfl rfl hs2 rfl rfl (pure_L _)
    have hap2 := app_one (P := Try.prog) ow3 25 24 .nil ts isz25 ibytes25 izero25 rfl (by omega) (by omega)
    have k1 := (appH_bl h2 w ((T ++ [ts]).flatMap (e1 LI)) 1 (by omega) (own_ne ow3 g1)).trans g1
    have k2 := (appH_bl h2 w ((T ++ [ts]).flatMap (e1 LI)) 2 (by omega) (own_ne ow3 g2)).trans g2
    have k3 := (appH_bl h2 w ((T ++ [ts]).flatMap (e1 LI)) 3 (by omega) (own_ne ow3 g3)).trans g3
    have kn := appH_nx h2 w ((T ++ [ts]).flatMap (e1 LI))
    have oW := Own.app (f := e1 LI) (sz := 1) h2 w (T ++ [ts])
    have oV4 := Own.keep oV3 dVw.symm ((T ++ [ts]).flatMap (e1 LI))
    have dWV := Own.dis oV3 (T ++ [ts]).length 1
    generalize appH h2 w ((T ++ [ts]).flatMap (e1 LI)) = G3 at hap2 k1 k2 k3 kn oW oV4
    generalize appV h2 (T ++ [ts]).length 1 = U at hap2 oW dWV
    have hU := own_cell oW
    have hst2 : storeC G3 3 1 1 (some (.cells false false [V, w])) U.cells = some (.skp, G3.put 3 (some (.cells false false [V, U]))) := store_snd hU
    have b3 := F.b3
    have hF3 : 3 < h.nx := by have := F.nx; omega
    simp (disch := first | (simp only [go_sem, Bool.and_self, eq_self]; done) | omega | (simp only [List.length_cons, List.length_nil]; omega)) only [go_sem, ↓reduceIte, Nat.reduceEqDiff, Nat.reduceAdd, Nat.reduceMul, Nat.reduceSub, Int.reduceToNat, Nat.reduceBEq, List.size_toArray, List.length_cons, List.length_nil, Bool.false_and, Bool.true_and, Bool.or_false, Bool.false_or, Bool.and_false, Bool.and_true, s4, s5, s6, s7, s8, s9, s13, b3, hF3, hbs1, hap1, c3, hst1, d3, hbs2, hap2, k3, hst2]
    rw [ForK_normal]
    refine ⟨hlt, by simp (disch := first | (simp only [go_sem, Bool.and_self, eq_self]; done) | omega | (simp only [List.length_cons, List.length_nil]; omega)) only [go_sem, ↓reduceIte, Nat.reduceEqDiff, Nat.reduceAdd, Nat.reduceMul, Nat.reduceSub, Int.reduceToNat, Nat.reduceBEq, List.size_toArray, List.length_cons, List.length_nil, Bool.false_and, Bool.true_and, Bool.or_false, Bool.false_or, Bool.and_false, Bool.and_true, s8], by simp (disch := first | (simp only [go_sem, Bool.and_self, eq_self]; done) | omega | (simp only [List.length_cons, List.length_nil]; omega)) only [go_sem, ↓reduceIte, Nat.reduceEqDiff, Nat.reduceAdd, Nat.reduceMul, Nat.reduceSub, Int.reduceToNat, Nat.reduceBEq, List.size_toArray, List.length_cons, List.length_nil, Bool.false_and, Bool.true_and, Bool.or_false, Bool.false_or, Bool.and_false, Bool.and_true, s4], by simp (disch := first | (simp only [go_sem, Bool.and_self, eq_self]; done) | omega | (simp only [List.length_cons, List.length_nil]; omega)) only [go_sem, ↓reduceIte, Nat.reduceEqDiff, Nat.reduceAdd, Nat.reduceMul, Nat.reduceSub, Int.reduceToNat, Nat.reduceBEq, List.size_toArray, List.length_cons, List.length_nil, Bool.false_and, Bool.true_and, Bool.or_false, Bool.false_or, Bool.and_false, Bool.and_true, s5], by simp (disch := first | (simp only [go_sem, Bool.and_self, eq_self]; done) | omega | (simp only [List.length_cons, List.length_nil]; omega)) only [go_sem, ↓reduceIte, Nat.reduceEqDiff, Nat.reduceAdd, Nat.reduceMul, Nat.reduceSub, Int.reduceToNat, Nat.reduceBEq, List.size_toArray, List.length_cons, List.length_nil, Bool.false_and, Bool.true_and, Bool.or_false, Bool.false_or, Bool.and_false, Bool.and_true, s6], by simp (disch := first | (simp only [go_sem, Bool.and_self, eq_self]; done) | omega | (simp only [List.length_cons, List.length_nil]; omega)) only [go_sem, ↓reduceIte, Nat.reduceEqDiff, Nat.reduceAdd, Nat.reduceMul, Nat.reduceSub, Int.reduceToNat, Nat.reduceBEq, List.size_toArray, List.length_cons, List.length_nil, Bool.false_and, Bool.true_and, Bool.or_false, Bool.false_or, Bool.and_false, Bool.and_true, s7], P ++ [rr], T ++ [ts], V, U, ⟨?_, ?_, ?_, by simp (disch := first | (simp only [go_sem, Bool.and_self, eq_self]; done) | omega | (simp only [List.length_cons, List.length_nil]; omega)) only [go_sem, ↓reduceIte, Nat.reduceEqDiff, Nat.reduceAdd, Nat.reduceMul, Nat.reduceSub, Int.reduceToNat, Nat.reduceBEq, List.size_toArray, List.length_cons, List.length_nil, Bool.false_and, Bool.true_and, Bool.or_false, Bool.false_or, Bool.and_false, Bool.and_true], own_put oV4 k3 _, own_put oW k3 _, dWV.symm⟩, by simp [hPl], by simp [hTl], fun j hj => ?_⟩
    · rw [put_nx, kn]; omega
    · rw [put_bl, if_neg (by decide)]; exact k1
    · rw [put_bl, if_neg (by decide)]; exact k2
    · rcases Nat.lt_or_ge j i with h | h
      · rw [nth_append_left _ _ _ (by omega), nth_append_left _ _ _ (by omega)]; exact hok j h
      · have hji : j = i := by omega
        have e1' : nth (P ++ [rr]) j = rr := by rw [nth, List.getElem?_append_right (by omega), hPl, hji]; simp
        have e2' : nth (T ++ [ts]) j = ts := by rw [nth, List.getElem?_append_right (by omega), hTl, hji]; simp
        rw [e1', e2', hji]
        exact ar.ok (by rw [tsl, hNe]) (fun j hj => hts j (by omega))
  · rintro st h ⟨s4, s5, s6, s7, P, T, v, w, F, hPl, hTl, hok⟩
    have hk1 : 1 ≤ k := by omega
    have hv := own_cell F.ov
    have hw := own_cell F.ow
    have b1 := F.b1
    have b3 := F.b3
    have o1 := own_put F.ov b1 (some (.cells false false [v, w]))
    have o2 := own_put F.ow b1 (some (.cells false false [v, w]))
    have hex := export_net 24 o1 o2 F.d (fun e => by rw [e] at hPl; simp at hPl; omega) (fun e => by rw [e] at hTl; simp at hTl; omega)
    rw [netV_cons (fun e => by rw [e.1] at hPl; simp at hPl; omega)] at hex
    simp (disch := first | (simp only [go_sem, Bool.and_self, eq_self]; done) | omega | (simp only [List.length_cons, List.length_nil]; omega)) only [go_sem, ↓reduceIte, Nat.reduceEqDiff, Nat.reduceAdd, Nat.reduceMul, Nat.reduceSub, Int.reduceToNat, Nat.reduceBEq, List.size_toArray, List.length_cons, List.length_nil, Bool.false_and, Bool.true_and, Bool.or_false, Bool.false_or, Bool.and_false, Bool.and_true, s4, s5, s6, s7, b1, b3, hv, hw]
    refine ⟨_, hex, P, T, ?_, by omega, rfl⟩
    simp only [netB, Bool.and_eq_true, decide_eq_true_eq]
    refine ⟨⟨by simp [inB]; omega, by omega⟩, all_range fun j hj => ?_⟩
    rw [rowB_def]
    exact hok j (by omega)
theorem f30_con (p t : List (List Int)) (hp : okLL p) (ht : okLL t) (m : Int) (hm : 1 ≤ m ∧ m ≤ 10) : ∃ r, Con Try.prog cfg 30 [.agg [LLI p, LLI t], I m] r ∧ TameR m r := by
  have ml : maxLen = 9223372036854775807 := by decide
  have k16 := fun h h' K => ConW_any (h := h) (h' := h') (K := K) (f16_con p t hp ht) (by unfold netV; split <;> rfl)
  have okp := tableM_ok p
  have okt := tableM_ok t
  have lp : (tableM p).length ≤ 12 := by simp [tableM]; omega
  have lt : (tableM t).length ≤ 12 := by simp [tableM]; omega
  generalize tableM p = p' at *
  generalize tableM t = t' at *
  have hv : ∃ pv tv, netV p' t' = .agg [pv, tv] ∧ LV pv p' ∧ LV tv t' ∧ (∀ h, sealA h (.agg [pv, tv]) = some (.agg [pv, tv], h)) ∧ Con Try.prog cfg 19 [.agg [pv, tv]] (.bool (netB p' t')) ∧ (netB p' t' = true → pv = LLI p' ∧ tv = LLI t') := by
    by_cases hnil : p' = [] ∧ t' = []
    · obtain ⟨rfl, rfl⟩ := hnil
      exact ⟨.nil, .nil, netV_nil, .inr ⟨rfl, rfl⟩, .inr ⟨rfl, rfl⟩, fun _ => rfl, f19_nil, fun h => by cases h⟩
    · exact ⟨LLI p', LLI t', netV_cons hnil, .inl rfl, .inl rfl, fun h => by simp (disch := first | (simp only [go_sem, Bool.and_self, eq_self]; done) | omega | (simp only [List.length_cons, List.length_nil]; omega)) only [go_sem, ↓reduceIte, Nat.reduceEqDiff, Nat.reduceAdd, Nat.reduceMul, Nat.reduceSub, Int.reduceToNat, Nat.reduceBEq, List.size_toArray, List.length_cons, List.length_nil, Bool.false_and, Bool.true_and, Bool.or_false, Bool.false_or, Bool.and_false, Bool.and_true], f19_con p' t' okp okt, fun _ => ⟨rfl, rfl⟩⟩
  obtain ⟨pv, tv, hnv, lpv, ltv, hse, c19, hne⟩ := hv
  rw [hnv] at k16
  have k19 := fun h h' K => ConW_num (h := h) (h' := h') (K := K) c19 rfl
  have hcp := lpv.cell
  have hct := ltv.cell
  have hst := fun h => show storeC h 2 0 2 (some (.cells false false [.nil, .nil])) [pv, tv] = some (.skp, h.put 2 (some (.cells false false [pv, tv]))) by simp [storeC, hcp, hct, setL]
  have klp := lpv.len
  have klt := ltv.len
  refine Con_introE Try.func30 rfl ok30 (Nat.le_of_ble_eq_true rfl) rfl ?_
  have tl := fun st h a1 a2 a3 a4 a5 a6 => f30_tail p' t' pv tv lpv ltv okp okt lp lt m hm st h a1 a2 a3 a4 a5 a6
  have hb : Try.f30.body.getD .skip = withTail 3 (Try.f30.body.getD .skip) (tailN 3 (Try.f30.body.getD .skip)) := rfl
  rw [hb]
  generalize tailN 3 (Try.f30.body.getD .skip) = T at tl ⊢
  simp only [withTail, Try.f30, Option.getD_some, initSt2]
  cases h1 : netB p' t' with
  | true =>
    obtain ⟨rfl, rfl⟩ := hne h1
    by_cases hle : (p'.length : Int) ≤ m
    · simp (disch := first | (simp only [go_sem, Bool.and_self, eq_self]; done) | omega | (simp only [List.length_cons, List.length_nil]; omega)) only [go_sem, ↓reduceIte, Nat.reduceEqDiff, Nat.reduceAdd, Nat.reduceMul, Nat.reduceSub, Int.reduceToNat, Nat.reduceBEq, List.size_toArray, List.length_cons, List.length_nil, Bool.false_and, Bool.true_and, Bool.or_false, Bool.false_or, Bool.and_false, Bool.and_true, k16, k19, hse, hst, h1, hle]
      refine ⟨.agg [LLI p', LLI t'], ?_, p', t', h1, hle, rfl⟩
      show (exportV Try.prog false false 24 _ [] (.agg [LLI p', LLI t'])).bind _ = _
      rw [exportV_plain, hse]; rfl
    · simp (disch := first | (simp only [go_sem, Bool.and_self, eq_self]; done) | omega | (simp only [List.length_cons, List.length_nil]; omega)) only [go_sem, ↓reduceIte, Nat.reduceEqDiff, Nat.reduceAdd, Nat.reduceMul, Nat.reduceSub, Int.reduceToNat, Nat.reduceBEq, List.size_toArray, List.length_cons, List.length_nil, Bool.false_and, Bool.true_and, Bool.or_false, Bool.false_or, Bool.and_false, Bool.and_true, k16, k19, hse, hst, h1, hle]
      exact tl _ _ (by simp (disch := first | (simp only [go_sem, Bool.and_self, eq_self]; done) | omega | (simp only [List.length_cons, List.length_nil]; omega)) only [go_sem, ↓reduceIte, Nat.reduceEqDiff, Nat.reduceAdd, Nat.reduceMul, Nat.reduceSub, Int.reduceToNat, Nat.reduceBEq, List.size_toArray, List.length_cons, List.length_nil, Bool.false_and, Bool.true_and, Bool.or_false, Bool.false_or, Bool.and_false, Bool.and_true]) (by simp (disch := first | (simp only [go_sem, Bool.and_self, eq_self]; done) | omega | (simp only [List.length_cons, List.length_nil]; omega)) only [go_sem, ↓reduceIte, Nat.reduceEqDiff, Nat.reduceAdd, Nat.reduceMul, Nat.reduceSub, Int.reduceToNat, Nat.reduceBEq, List.size_toArray, List.length_cons, List.length_nil, Bool.false_and, Bool.true_and, Bool.or_false, Bool.false_or, Bool.and_false, Bool.and_true]) (by simp (disch := first | (simp only [go_sem, Bool.and_self, eq_self]; done) | omega | (simp only [List.length_cons, List.length_nil]; omega)) only [go_sem, ↓reduceIte, Nat.reduceEqDiff, Nat.reduceAdd, Nat.reduceMul, Nat.reduceSub, Int.reduceToNat, Nat.reduceBEq, List.size_toArray, List.length_cons, List.length_nil, Bool.false_and, Bool.true_and, Bool.or_false, Bool.false_or, Bool.and_false, Bool.and_true]) (by simp (disch := first | (simp only [go_sem, Bool.and_self, eq_self]; done) | omega | (simp only [List.length_cons, List.length_nil]; omega)) only [go_sem, ↓reduceIte, Nat.reduceEqDiff, Nat.reduceAdd, Nat.reduceMul, Nat.reduceSub, Int.reduceToNat, Nat.reduceBEq, List.size_toArray, List.length_cons, List.length_nil, Bool.false_and, Bool.true_and, Bool.or_false, Bool.false_or, Bool.and_false, Bool.and_true]) (by simp (disch := first | (simp only [go_sem, Bool.and_self, eq_self]; done) | omega | (simp only [List.length_cons, List.length_nil]; omega)) only [go_sem, ↓reduceIte, Nat.reduceEqDiff, Nat.reduceAdd, Nat.reduceMul, Nat.reduceSub, Int.reduceToNat, Nat.reduceBEq, List.size_toArray, List.length_cons, List.length_nil, Bool.false_and, Bool.true_and, Bool.or_false, Bool.false_or, Bool.and_false, Bool.and_true]) (by simp (disch := first | (simp only [go_sem, Bool.and_self, eq_self]; done) | omega | (simp only [List.length_cons, List.length_nil]; omega)) only [go_sem, ↓reduceIte, Nat.reduceEqDiff, Nat.reduceAdd, Nat.reduceMul, Nat.reduceSub, Int.reduceToNat, Nat.reduceBEq, List.size_toArray, List.length_cons, List.length_nil, Bool.false_and, Bool.true_and, Bool.or_false, Bool.false_or, Bool.and_false, Bool.and_true])
  | false =>
    simp (disch := first | (simp only [go_sem, Bool.and_self, eq_self]; done) | omega | (simp only [List.length_cons, List.length_nil]; omega)) only [go_sem, ↓reduceIte, Nat.reduceEqDiff, Nat.reduceAdd, Nat.reduceMul, Nat.reduceSub, Int.reduceToNat, Nat.reduceBEq, List.size_toArray, List.length_cons, List.length_nil, Bool.false_and, Bool.true_and, Bool.or_false, Bool.false_or, Bool.and_false, Bool.and_true, k16, k19, hse, hst, h1]
    exact tl _ _ (by simp (disch := first | (simp only [go_sem, Bool.and_self, eq_self]; done) | omega | (simp only [List.length_cons, List.length_nil]; omega)) only [go_sem, ↓reduceIte, Nat.reduceEqDiff, Nat.reduceAdd, Nat.reduceMul, Nat.reduceSub, Int.reduceToNat, Nat.reduceBEq, List.size_toArray, List.length_cons, List.length_nil, Bool.false_and, Bool.true_and, Bool.or_false, Bool.false_or, Bool.and_false, Bool.and_true]) (by simp (disch := first | (simp only [go_sem, Bool.and_self, eq_self]; done) | omega | (simp only [List.length_cons, List.length_nil]; omega)) only [go_sem, ↓reduceIte, Nat.reduceEqDiff, Nat.reduceAdd, Nat.reduceMul, Nat.reduceSub, Int.reduceToNat, Nat.reduceBEq, List.size_toArray, List.length_cons, List.length_nil, Bool.false_and, Bool.true_and, Bool.or_false, Bool.false_or, Bool.and_false, Bool.and_true]) (by simp (disch := first | (simp only [go_sem, Bool.and_self, eq_self]; done) | omega | (simp only [List.length_cons, List.length_nil]; omega)) only [go_sem, ↓reduceIte, Nat.reduceEqDiff, Nat.reduceAdd, Nat.reduceMul, Nat.reduceSub, Int.reduceToNat, Nat.reduceBEq, List.size_toArray, List.length_cons, List.length_nil, Bool.false_and, Bool.true_and, Bool.or_false, Bool.false_or, Bool.and_false, Bool.and_true]) (by simp (disch := first | (simp only [go_sem, Bool.and_self, eq_self]; done) | omega | (simp only [List.length_cons, List.length_nil]; omega)) only [go_sem, ↓reduceIte, Nat.reduceEqDiff, Nat.reduceAdd, Nat.reduceMul, Nat.reduceSub, Int.reduceToNat, Nat.reduceBEq, List.size_toArray, List.length_cons, List.length_nil, Bool.false_and, Bool.true_and, Bool.or_false, Bool.false_or, Bool.and_false, Bool.and_true]) (by simp (disch := first | (simp only [go_sem, Bool.and_self, eq_self]; done) | omega | (simp only [List.length_cons, List.length_nil]; omega)) only [go_sem, ↓reduceIte, Nat.reduceEqDiff, Nat.reduceAdd, Nat.reduceMul, Nat.reduceSub, Int.reduceToNat, Nat.reduceBEq, List.size_toArray, List.length_cons, List.length_nil, Bool.false_and, Bool.true_and, Bool.or_false, Bool.false_or, Bool.and_false, Bool.and_true]) (by simp (disch := first | (simp only [go_sem, Bool.and_self, eq_self]; done) | omega | (simp only [List.length_cons, List.length_nil]; omega)) only [go_sem, ↓reduceIte, Nat.reduceEqDiff, Nat.reduceAdd, Nat.reduceMul, Nat.reduceSub, Int.reduceToNat, Nat.reduceBEq, List.size_toArray, List.length_cons, List.length_nil, Bool.false_and, Bool.true_and, Bool.or_false, Bool.false_or, Bool.and_false, Bool.and_true])

end Go.Proofs.Ytpkakapbepkfdaa

set_option linter.unusedVariables false
set_option linter.unusedSimpArgs false
set_option maxRecDepth 10000
namespace Go.Proofs.Ytpkakapbepkfdaa
open Go Go.Am

variable {h h' : Hp} {K : AV → Hp → Prop}

theorem f63_con (x : Int) (hx : 0 ≤ x ∧ x ≤ 4611686018427387904) : Con Try.prog cfg 63 [I x] (I x) := by
  have hm : max x (0 - x) = x := by omega
  refine Con_intro Try.func63 rfl ok63 (Nat.le_of_ble_eq_true rfl) rfl ?_
  simp only [Try.f63, Option.getD_some, initSt1]
  simp (disch := first | (simp only [go_sem, Bool.and_self, eq_self]; done) | omega | (simp only [List.length_cons, List.length_nil]; omega)) only [go_sem, ↓reduceIte, Nat.reduceEqDiff, Nat.reduceAdd, Nat.reduceMul, Nat.reduceSub, Int.reduceToNat, Nat.reduceBEq, List.size_toArray, List.length_cons, List.length_nil, Bool.false_and, Bool.true_and, Bool.or_false, Bool.false_or, Bool.and_false, Bool.and_true, hm]
theorem f34_con (a b : Int) (ha : 0 ≤ a ∧ a ≤ 4611686018427387904) (hb : 0 < b ∧ b ≤ 4611686018427387904) (hg : gcdI a b = 1) : Con Try.prog cfg 34 [.agg [I a, I b]] (.bool true) := by
  have h1 := Int.tmod_nonneg b ha.1
  have h2 := Int.tmod_lt_of_pos a hb.1
  have k63 := fun h h' K => ConW_num (h := h) (h' := h') (K := K) (f63_con (a.tmod b) (by omega)) rfl
  have k62' := fun h h' K => k62 (h := h) (h' := h') (K := K) b (a.tmod b) (by omega) (by omega)
  have hs := gcdI_step ha.1 hb.1
  rw [hs, hg] at k62'
  have n1 : ¬ b < 1 := by omega
  have n0 : ¬ b = 0 := by omega
  have hal : ∀ g : Hp, allocB g (some (.agg [I a, I b])) = some (.ptr g.nx 0, g.alloc (.cells false false [I a, I b])) := fun g => allocB_agg _ rfl
  refine Con_intro Try.func34 rfl ok34 (Nat.le_of_ble_eq_true rfl) rfl ?_
  simp only [Try.f34, Option.getD_some, initSt1]
  simp (disch := first | (simp only [go_sem, Bool.and_self, eq_self]; done) | omega | (simp only [List.length_cons, List.length_nil]; omega)) only [go_sem, ↓reduceIte, Nat.reduceEqDiff, Nat.reduceAdd, Nat.reduceMul, Nat.reduceSub, Int.reduceToNat, Nat.reduceBEq, List.size_toArray, List.length_cons, List.length_nil, Bool.false_and, Bool.true_and, Bool.or_false, Bool.false_or, Bool.and_false, Bool.and_true, hal, n1, n0, k63, k62']
theorem redu_gcd {a b : Int} (hb : 0 < b) : gcdI (a / gcdI a b) (b / gcdI a b) = 1 := by
  have h : 0 < Int.gcd a b := Int.gcd_pos_of_ne_zero_right _ (by omega)
  have := Int.gcd_ediv_gcd_ediv_gcd h
  unfold gcdI
  rw [this]; rfl
theorem redu_pos {a b : Int} (ha : 0 < a) (hb : 0 < b) : 0 < a / gcdI a b ∧ 0 < b / gcdI a b ∧ a / gcdI a b ≤ a ∧ b / gcdI a b ≤ b := by
  have hg := gcdI_pos (a := a) hb
  have d1 : gcdI a b ∣ a := Int.gcd_dvd_left a b
  have d2 : gcdI a b ∣ b := Int.gcd_dvd_right a b
  refine ⟨Int.ediv_pos_of_pos_of_dvd ha (by omega) d1, Int.ediv_pos_of_pos_of_dvd hb (by omega) d2, Int.ediv_le_self _ (by omega), Int.ediv_le_self _ (by omega)⟩
theorem redu_mul (a b : Int) : gcdI a b * (a / gcdI a b) = a ∧ gcdI a b * (b / gcdI a b) = b :=
  ⟨Int.mul_ediv_cancel' (Int.gcd_dvd_left a b), Int.mul_ediv_cancel' (Int.gcd_dvd_right a b)⟩
/-- Two fractions with one denominator, reduced, and compared crosswise. -/
theorem cross {x y d : Int} (hd : 0 < d) : (x / gcdI x d * (d / gcdI y d) < y / gcdI y d * (d / gcdI x d) ↔ x < y) ∧ (x / gcdI x d * (d / gcdI y d) = y / gcdI y d * (d / gcdI x d) ↔ x = y) := by
  have hgx := gcdI_pos (a := x) hd
  have hgy := gcdI_pos (a := y) hd
  obtain ⟨x1, x2⟩ := redu_mul x d
  obtain ⟨y1, y2⟩ := redu_mul y d
  generalize gcdI x d = g at *
  generalize gcdI y d = k at *
  generalize x / g = a at *
  generalize d / g = c at *
  generalize y / k = b at *
  generalize d / k = e at *
  have hG : 0 < g * k := Int.mul_pos hgx hgy
  have h1 : g * k * (a * e) = x * d := by rw [← x1, ← y2]; rw [show g * k * (a * e) = (g * a) * (k * e) by rw [Int.mul_assoc, Int.mul_left_comm k a e, ← Int.mul_assoc]]
  have h2 : g * k * (b * c) = y * d := by rw [← y1, ← x2]; rw [Int.mul_comm g k, Int.mul_assoc, Int.mul_left_comm g b c, ← Int.mul_assoc]
  constructor
  · rw [← Int.mul_lt_mul_left hG, h1, h2]; exact Int.mul_lt_mul_right hd
  · constructor
    · intro h
      have h3 : x * d = y * d := by rw [← h1, ← h2, h]
      exact Int.eq_of_mul_eq_mul_right (by omega) h3
    · rintro rfl
      have h3 : g * k * (a * e) = g * k * (b * c) := by rw [h1, h2]
      exact Int.eq_of_mul_eq_mul_left (by omega) h3

theorem sumN_nonneg_zero {f : Nat → Int} : ∀ {n : Nat}, (∀ i, i < n → f i = 0) → sumN f n = 0
  | 0, _ => rfl
  | n + 1, h => by rw [sumN, sumN_nonneg_zero (fun i hi => h i (by omega)), h n (by omega)]; rfl
theorem redu_bounds {a b : Int} (ha : 0 ≤ a) (hb : 0 < b) : 0 ≤ a / gcdI a b ∧ 0 < b / gcdI a b ∧ a / gcdI a b ≤ a ∧ b / gcdI a b ≤ b := by
  have hg := gcdI_pos (a := a) hb
  have d2 : gcdI a b ∣ b := Int.gcd_dvd_right a b
  exact ⟨Int.ediv_nonneg ha (by omega), Int.ediv_pos_of_pos_of_dvd hb (by omega) d2, Int.ediv_le_self _ ha, Int.ediv_le_self _ (by omega)⟩
def agP (v : List Int) (g : List (Int × Int)) (i : Nat) : Bool := (List.range i).all fun j => decide (nth v (nth g j).1.toNat = (nth g j).2)
theorem agP_succ (v : List Int) (g : List (Int × Int)) (i : Nat) : agP v g (i + 1) = (agP v g i && decide (nth v (nth g i).1.toNat = (nth g i).2)) := by simp [agP, List.range_succ]
theorem agP_all (v : List Int) (g : List (Int × Int)) : agP v g g.length = agreeB v g := by
  rw [Bool.eq_iff_iff, agP, agreeB, List.all_eq_true, List.all_eq_true]
  constructor
  · intro h q hq
    obtain ⟨j, hj, rfl⟩ := List.getElem_of_mem hq
    rw [← nth_getElem hj]; exact h j (by simpa using hj)
  · intro h j hj
    have := h (nth g j) (nth_mem (by simpa using hj))
    exact this
theorem okLL_net {p t : List (List Int)} (h : netB p t = true) : okLL p ∧ okLL t := by
  have ml : maxLen = 9223372036854775807 := by decide
  have N := Net.of h
  have n1 := N.n1
  simp only [netB, Bool.and_eq_true, decide_eq_true_eq] at h
  refine ⟨⟨by omega, fun r hr => ?_⟩, ⟨by omega, fun r hr => ?_⟩⟩
  · obtain ⟨i, hi, rfl⟩ := List.getElem_of_mem hr
    have := range_all h.2 hi
    rw [rowB_def, rowOK] at this
    simp only [Bool.and_eq_true, decide_eq_true_eq] at this
    rw [← nth_getElem hi]; omega
  · obtain ⟨i, hi, rfl⟩ := List.getElem_of_mem hr
    have := range_all h.2 (show i < p.length by omega)
    rw [rowB_def, rowOK] at this
    simp only [Bool.and_eq_true, decide_eq_true_eq] at this
    have h8 : 2 ^ (nth p i).length ≤ 2 ^ 3 := Nat.pow_le_pow_right (by decide) this.1.1.1
    rw [← nth_getElem hi]; omega
theorem joint_row {p t : List (List Int)} (h1 : netB p t = true) (x : Nat) : jointR p t (rowN p.length x) = .tup [redu (weightB p t (rowN p.length x) p.length) (16 ^ p.length), I 0] := by
  have hrow : rowOkB p (rowN p.length x) = true := by
    simp only [rowOkB, rowN_len, decide_true, Bool.true_and]
    rw [not_any_nth (f := fun x => !inB x 0 1) fun j hj => by
      rw [rowN_len] at hj
      rcases (row_rowN (p := p) (x := x)).bit j hj with h | h <;> rw [h] <;> rfl]
    rfl
  rw [jointR, h1, hrow, weight_ten (Net.of h1) hrow]; rfl
theorem pow28 {n : Nat} (h : n ≤ 7) : (16 : Int) ^ n ≤ 268435456 := by
  have h1 : (16 : Nat) ^ n ≤ 268435456 := Nat.pow_le_pow_right (n := 16) (by decide) h
  have e : (16 : Int) ^ n = ((16 ^ n : Nat) : Int) := by simp
  rw [e]; omega


end Go.Proofs.Ytpkakapbepkfdaa

set_option linter.unusedVariables false
set_option linter.unusedSimpArgs false
set_option maxRecDepth 10000
namespace Go.Proofs.Ytpkakapbepkfdaa
open Go Go.Am

variable {h h' : Hp} {K : AV → Hp → Prop}

theorem list_ext_nth {a b : List Int} (hl : a.length = b.length) (h : ∀ i, i < a.length → nth a i = nth b i) : a = b :=
  List.ext_getElem hl fun i h1 h2 => by rw [← nth_getElem h1, ← nth_getElem h2]; exact h i h1
theorem f39_con (a b : List Int) (ha : a.length ≤ maxLen) (hb : b.length ≤ maxLen) : Con Try.prog cfg 39 [LI a, LI b] (.bool (decide (a = b))) := by
  have ml : maxLen = 9223372036854775807 := by decide
  refine Con_intro Try.func39 rfl ok39 (Nat.le_of_ble_eq_true rfl) rfl ?_
  simp only [Try.f39, Option.getD_some, initSt2]
  by_cases hl : a.length = b.length
  case neg =>
    have hn : ¬ (a.length : Int) = b.length := by omega
    have hr : ¬ a = b := fun h => hl (by rw [h])
    simp (disch := first | (simp only [go_sem, Bool.and_self, eq_self]; done) | omega | (simp only [List.length_cons, List.length_nil]; omega)) only [go_sem, ↓reduceIte, Nat.reduceEqDiff, Nat.reduceAdd, Nat.reduceMul, Nat.reduceSub, Int.reduceToNat, Nat.reduceBEq, List.size_toArray, List.length_cons, List.length_nil, Bool.false_and, Bool.true_and, Bool.or_false, Bool.false_or, Bool.and_false, Bool.and_true, hn, hr]
  have hn : (a.length : Int) = b.length := by omega
  simp (disch := first | (simp only [go_sem, Bool.and_self, eq_self]; done) | omega | (simp only [List.length_cons, List.length_nil]; omega)) only [go_sem, ↓reduceIte, Nat.reduceEqDiff, Nat.reduceAdd, Nat.reduceMul, Nat.reduceSub, Int.reduceToNat, Nat.reduceBEq, List.size_toArray, List.length_cons, List.length_nil, Bool.false_and, Bool.true_and, Bool.or_false, Bool.false_or, Bool.and_false, Bool.and_true, hn]
  refine WP_for 5 a.length (fun i st h => st 0 = LI a ∧ st 1 = LI b ∧ st 4 = .bool false ∧ ∀ j, j < i → nth a j = nth b j) (by simp (disch := first | (simp only [go_sem, Bool.and_self, eq_self]; done) | omega | (simp only [List.length_cons, List.length_nil]; omega)) only [go_sem, ↓reduceIte, Nat.reduceEqDiff, Nat.reduceAdd, Nat.reduceMul, Nat.reduceSub, Int.reduceToNat, Nat.reduceBEq, List.size_toArray, List.length_cons, List.length_nil, Bool.false_and, Bool.true_and, Bool.or_false, Bool.false_or, Bool.and_false, Bool.and_true]) ⟨by simp (disch := first | (simp only [go_sem, Bool.and_self, eq_self]; done) | omega | (simp only [List.length_cons, List.length_nil]; omega)) only [go_sem, ↓reduceIte, Nat.reduceEqDiff, Nat.reduceAdd, Nat.reduceMul, Nat.reduceSub, Int.reduceToNat, Nat.reduceBEq, List.size_toArray, List.length_cons, List.length_nil, Bool.false_and, Bool.true_and, Bool.or_false, Bool.false_or, Bool.and_false, Bool.and_true], by simp (disch := first | (simp only [go_sem, Bool.and_self, eq_self]; done) | omega | (simp only [List.length_cons, List.length_nil]; omega)) only [go_sem, ↓reduceIte, Nat.reduceEqDiff, Nat.reduceAdd, Nat.reduceMul, Nat.reduceSub, Int.reduceToNat, Nat.reduceBEq, List.size_toArray, List.length_cons, List.length_nil, Bool.false_and, Bool.true_and, Bool.or_false, Bool.false_or, Bool.and_false, Bool.and_true], by simp (disch := first | (simp only [go_sem, Bool.and_self, eq_self]; done) | omega | (simp only [List.length_cons, List.length_nil]; omega)) only [go_sem, ↓reduceIte, Nat.reduceEqDiff, Nat.reduceAdd, Nat.reduceMul, Nat.reduceSub, Int.reduceToNat, Nat.reduceBEq, List.size_toArray, List.length_cons, List.length_nil, Bool.false_and, Bool.true_and, Bool.or_false, Bool.false_or, Bool.and_false, Bool.and_true], by omega⟩ ?_
  rintro i st h hi s5 ⟨s0, s1, s4, hg⟩
  by_cases hlt : i < a.length
  case neg =>
    have hab : a = b := list_ext_nth hl fun j hj => hg j (by omega)
    have hlt2 : ¬ (i : Int) < a.length := by omega
    subst hab
    simp (disch := first | (simp only [go_sem, Bool.and_self, eq_self]; done) | omega | (simp only [List.length_cons, List.length_nil]; omega)) only [go_sem, ↓reduceIte, Nat.reduceEqDiff, Nat.reduceAdd, Nat.reduceMul, Nat.reduceSub, Int.reduceToNat, Nat.reduceBEq, List.size_toArray, List.length_cons, List.length_nil, Bool.false_and, Bool.true_and, Bool.or_false, Bool.false_or, Bool.and_false, Bool.and_true, s0, s1, s4, s5, hlt]
  have hlb : i < b.length := by omega
  by_cases he : nth a i = nth b i
  · simp (disch := first | (simp only [go_sem, Bool.and_self, eq_self]; done) | omega | (simp only [List.length_cons, List.length_nil]; omega)) only [go_sem, ↓reduceIte, Nat.reduceEqDiff, Nat.reduceAdd, Nat.reduceMul, Nat.reduceSub, Int.reduceToNat, Nat.reduceBEq, List.size_toArray, List.length_cons, List.length_nil, Bool.false_and, Bool.true_and, Bool.or_false, Bool.false_or, Bool.and_false, Bool.and_true, s0, s1, s4, s5, hlt, hlb, he]
    rw [ForK_normal]
    exact ⟨hlt, by simp (disch := first | (simp only [go_sem, Bool.and_self, eq_self]; done) | omega | (simp only [List.length_cons, List.length_nil]; omega)) only [go_sem, ↓reduceIte, Nat.reduceEqDiff, Nat.reduceAdd, Nat.reduceMul, Nat.reduceSub, Int.reduceToNat, Nat.reduceBEq, List.size_toArray, List.length_cons, List.length_nil, Bool.false_and, Bool.true_and, Bool.or_false, Bool.false_or, Bool.and_false, Bool.and_true, s5], by simp (disch := first | (simp only [go_sem, Bool.and_self, eq_self]; done) | omega | (simp only [List.length_cons, List.length_nil]; omega)) only [go_sem, ↓reduceIte, Nat.reduceEqDiff, Nat.reduceAdd, Nat.reduceMul, Nat.reduceSub, Int.reduceToNat, Nat.reduceBEq, List.size_toArray, List.length_cons, List.length_nil, Bool.false_and, Bool.true_and, Bool.or_false, Bool.false_or, Bool.and_false, Bool.and_true, s0], by simp (disch := first | (simp only [go_sem, Bool.and_self, eq_self]; done) | omega | (simp only [List.length_cons, List.length_nil]; omega)) only [go_sem, ↓reduceIte, Nat.reduceEqDiff, Nat.reduceAdd, Nat.reduceMul, Nat.reduceSub, Int.reduceToNat, Nat.reduceBEq, List.size_toArray, List.length_cons, List.length_nil, Bool.false_and, Bool.true_and, Bool.or_false, Bool.false_or, Bool.and_false, Bool.and_true, s1], by simp (disch := first | (simp only [go_sem, Bool.and_self, eq_self]; done) | omega | (simp only [List.length_cons, List.length_nil]; omega)) only [go_sem, ↓reduceIte, Nat.reduceEqDiff, Nat.reduceAdd, Nat.reduceMul, Nat.reduceSub, Int.reduceToNat, Nat.reduceBEq, List.size_toArray, List.length_cons, List.length_nil, Bool.false_and, Bool.true_and, Bool.or_false, Bool.false_or, Bool.and_false, Bool.and_true, s4], fun j hj => by
      rcases Nat.lt_or_ge j i with h | h
      · exact hg j h
      · rw [show j = i by omega]; exact he⟩
  · have hr : ¬ a = b := fun h => he (by rw [h])
    simp (disch := first | (simp only [go_sem, Bool.and_self, eq_self]; done) | omega | (simp only [List.length_cons, List.length_nil]; omega)) only [go_sem, ↓reduceIte, Nat.reduceEqDiff, Nat.reduceAdd, Nat.reduceMul, Nat.reduceSub, Int.reduceToNat, Nat.reduceBEq, List.size_toArray, List.length_cons, List.length_nil, Bool.false_and, Bool.true_and, Bool.or_false, Bool.false_or, Bool.and_false, Bool.and_true, s0, s1, s4, s5, hlt, hlb, he, hr]
theorem f66_con (xs : List Int) (h0 : 0 < xs.length) (hl : xs.length ≤ 10) : Con Try.prog cfg 66 [LI xs] (.fresh 1 (xs.flatMap (e1 I))) := by
  have happ := fun (h : Hp) (hb : h.bl 0 = some (.cells false true [])) => app_own (P := Try.prog) (h := h) (f := e1 I) 3 8 (I 0) (LI xs) 0 [] xs 0 isz3 ibytes3 izero3 rfl hb rfl (cellsOf_L _ _) (lenA_L _ _) (by simp; omega) (by simp; omega)
  have hne : binA Try.prog .eql 25 (LI xs) .nil = some (.bool false) := by
    cases xs with
    | nil => simp at h0
    | cons x xs => rfl
  have hex : ∀ h : Hp, exportR Try.prog true false [25] (((h.alloc (.cells false true [])).put 0 none).alloc (.cells false true (xs.flatMap (e1 I)))) (.sl (h.nx + 1) 0 xs.length 1) = some (.fresh 1 (xs.flatMap (e1 I))) := fun h =>
    export_fresh (f := e1 I) false 25 3 und25 rfl (.inr ⟨h.nx + 1, rfl, by simp [Hp.alloc, Hp.put], by simp [Hp.alloc, Hp.put]⟩)
  refine Con_intro Try.func66 rfl ok66 (Nat.le_of_ble_eq_true rfl) rfl ?_
  simp only [Try.f66, Option.getD_some, initSt1]
  have hbs := fun h => bsB_empty (P := Try.prog) (h := h) 3 1 (I 0) isz3 izero3 Nat.one_pos
  simp (disch := first | (simp only [go_sem, Bool.and_self, eq_self]; done) | omega | (simp only [List.length_cons, List.length_nil]; omega)) only [go_sem, ↓reduceIte, Nat.reduceEqDiff, Nat.reduceAdd, Nat.reduceMul, Nat.reduceSub, Int.reduceToNat, Nat.reduceBEq, List.size_toArray, List.length_cons, List.length_nil, Bool.false_and, Bool.true_and, Bool.or_false, Bool.false_or, Bool.and_false, Bool.and_true, hne, hbs]
  have happ' := happ (Hp.empty.alloc (.cells false true [])) (by simp [Hp.alloc, Hp.empty])
  simp only [List.length_nil, Nat.zero_add, List.nil_append] at happ'
  simp (disch := first | (simp only [go_sem, Bool.and_self, eq_self]; done) | omega | (simp only [List.length_cons, List.length_nil]; omega)) only [go_sem, ↓reduceIte, Nat.reduceEqDiff, Nat.reduceAdd, Nat.reduceMul, Nat.reduceSub, Int.reduceToNat, Nat.reduceBEq, List.size_toArray, List.length_cons, List.length_nil, Bool.false_and, Bool.true_and, Bool.or_false, Bool.false_or, Bool.and_false, Bool.and_true, happ']
  exact hex Hp.empty
theorem chance_scalar (p t : List (List Int)) (f g : List (Int × Int)) : (chanceR p t f g).isScalar = true := by
  unfold chanceR
  repeat' split
  all_goals rfl
theorem refC_scalar (p t : List (List Int)) (f g : List (Int × Int)) : (refC p t f g).isScalar = true := by
  unfold refC
  repeat' split
  all_goals rfl

end Go.Proofs.Ytpkakapbepkfdaa

set_option linter.unusedVariables false
set_option linter.unusedSimpArgs false
set_option maxRecDepth 10000
namespace Go.Proofs.Ytpkakapbepkfdaa
open Go Go.Am

variable {h h' : Hp} {K : AV → Hp → Prop}

theorem rowN_two (m y b : Nat) (hb : b < 2) : rowN (m + 1) (2 * y + b) = rowN m y ++ [(b : Int)] := by
  refine list_ext_nth (by simp [rowN_len]) fun j hj => ?_
  rw [rowN_len] at hj
  rw [rowN_nth hj]
  by_cases h : j < m
  · rw [nth_append_left _ _ _ (by rw [rowN_len]; exact h), rowN_nth h]
    have e : 2 ^ (m + 1 - 1 - j) = 2 * 2 ^ (m - 1 - j) := by
      rw [← Nat.pow_succ']; congr 1; omega
    rw [e, ← Nat.div_div_eq_div_mul, show (2 * y + b) / 2 = y by omega]
  · have hjm : j = m := by omega
    subst hjm
    rw [nth, List.getElem?_append_right (by rw [rowN_len]; omega), rowN_len]
    simp only [Nat.sub_self, List.getElem?_cons_zero, Option.getD_some, Nat.add_sub_cancel, Nat.pow_zero, Nat.div_one]
    omega
theorem sumN_two (f : Nat → Int) : ∀ n, sumN f (2 * n) = sumN (fun y => f (2 * y) + f (2 * y + 1)) n
  | 0 => rfl
  | n + 1 => by
    have e : 2 * (n + 1) = 2 * n + 1 + 1 := by omega
    rw [e, sumN, sumN, sumN_two f n, sumN]; omega
theorem sumN_mul (f : Nat → Int) (c : Int) : ∀ n, sumN (fun y => f y * c) n = sumN f n * c
  | 0 => by simp [sumN]
  | n + 1 => by rw [sumN, sumN, sumN_mul f c n, Int.add_mul]
theorem wt_front {p t : List (List Int)} (N : Net p t) {v w : List Int} {i : Nat} (hi : i < p.length) (h : ∀ k, k ≤ i → nth v k = nth w k) : wt p t v i = wt p t w i := by
  have : caseF (nth p i) v (nth p i).length = caseF (nth p i) w (nth p i).length := caseF_congr fun k hk => by
    obtain ⟨a0, a1⟩ := N.par i k hi hk
    exact h _ (by omega)
  simp only [wt, this, h i (Nat.le_refl _)]
theorem total {p t : List (List Int)} (N : Net p t) : ∀ m, m ≤ p.length → sumN (fun x => prodN (wt p t (rowN m x)) m) (2 ^ m) = 16 ^ m
  | 0, _ => by simp [sumN, prodN]
  | m + 1, hm => by
    have ih := total N m (by omega)
    rw [Nat.pow_succ, Nat.mul_comm, sumN_two]
    have e : ∀ y, y < 2 ^ m → (fun y => prodN (wt p t (rowN (m + 1) (2 * y))) (m + 1) + prodN (wt p t (rowN (m + 1) (2 * y + 1))) (m + 1)) y = (fun y => prodN (wt p t (rowN m y)) m * 16) y := by
      intro y _
      have r0 := rowN_two m y 0 (by decide)
      have r1 := rowN_two m y 1 (by decide)
      simp only [Nat.add_zero] at r0
      have fr : ∀ b : Int, prodN (wt p t (rowN m y ++ [b])) m = prodN (wt p t (rowN m y)) m := fun b => prodN_congr fun i hi => wt_front N (by omega) fun k hk => nth_append_left _ _ _ (by rw [rowN_len]; omega)
      have last : ∀ b : Int, nth (rowN m y ++ [b]) m = b := fun b => by rw [nth, List.getElem?_append_right (by rw [rowN_len]; omega), rowN_len]; simp
      have cs : ∀ b : Int, caseF (nth p m) (rowN m y ++ [b]) (nth p m).length = caseF (nth p m) (rowN m y) (nth p m).length := fun b => caseF_congr fun k hk => by
        obtain ⟨a0, a1⟩ := N.par m k (by omega) hk
        exact nth_append_left _ _ _ (by rw [rowN_len]; omega)
      simp only [r0, r1, prodN, fr, wt, last, cs]
      simp only [show ((0 : Nat) : Int) = 0 from rfl, show ((1 : Nat) : Int) = 1 from rfl, if_true, show ¬ (1 : Int) = 0 by decide, if_false]
      rw [← Int.mul_add]; congr 1; omega
    rw [sumN_congr e, sumN_mul, ih, Int.pow_succ]
theorem total_weight {p t : List (List Int)} (N : Net p t) : sumN (fun x => weightB p t (rowN p.length x) p.length) (2 ^ p.length) = 16 ^ p.length := total N p.length (Nat.le_refl _)

/-- A reduced fraction with a denominator that is known, back. -/
theorem redu_back {a b : Int} (hb : 0 < b) : b.tmod (b / gcdI a b) = 0 ∧ b.tdiv (b / gcdI a b) = gcdI a b ∧ a / gcdI a b * gcdI a b = a := by
  have hg := gcdI_pos (a := a) hb
  have hp : 0 < b / gcdI a b := Int.ediv_pos_of_pos_of_dvd hb (by omega) (Int.gcd_dvd_right a b)
  obtain ⟨m1, m2⟩ := redu_mul a b
  generalize gcdI a b = g at *
  generalize b / g = c at *
  refine ⟨?_, ?_, by rw [Int.mul_comm]; exact m1⟩
  · rw [Int.tmod_eq_emod_of_nonneg (by omega), ← m2]; exact Int.mul_emod_left g c
  · rw [Int.tdiv_eq_ediv_of_nonneg (by omega), ← m2]; exact Int.mul_ediv_cancel g (by omega)
theorem sumN_bounds {f : Nat → Int} {M : Int} (h : ∀ i, 0 ≤ f i ∧ f i ≤ M) : ∀ n : Nat, 0 ≤ sumN f n ∧ sumN f n ≤ n * M
  | 0 => by simp [sumN]
  | n + 1 => by
    have h1 := sumN_bounds h n
    have h2 := h n
    rw [sumN]
    have e : ((n + 1 : Nat) : Int) * M = n * M + M := by rw [Int.natCast_add, Int.add_mul]; simp
    rw [e]; omega

end Go.Proofs.Ytpkakapbepkfdaa

set_option linter.unusedVariables false
set_option linter.unusedSimpArgs false
set_option maxRecDepth 10000
namespace Go.Proofs.Ytpkakapbepkfdaa
open Go Go.Am

variable {h h' : Hp} {K : AV → Hp → Prop}

def factM (fs : List (Int × Int)) : List (Int × Int) := fs.take (min fs.length 20)
theorem factM_len (fs : List (Int × Int)) : (factM fs).length ≤ 20 := by rw [factM, List.length_take]; omega
theorem f22_con (fs : List (Int × Int)) (hf : fs.length ≤ maxLen) : Con Try.prog cfgX 22 [LP fs] (LP (factM fs)) := by
  have ml : maxLen = 9223372036854775807 := by decide
  have hmin : min (fs.length : Int) 20 = ((min fs.length 20 : Nat) : Int) := by omega
  have htl : (factM fs).length = min fs.length 20 := by rw [factM, List.length_take]; omega
  have hrow : fs.take (min fs.length 20) = factM fs := rfl
  have happ1 := fun h => app_nil (P := Try.prog) (h := h) (f := eP) 46 16 (.agg [I 0, I 0]) (LP (factM fs)) (factM fs) isz46 ibytes46 izero46 rfl (cellsOf_L _ _) (lenA_L _ _) (by omega) (by omega)
  refine Con_intro Try.func22 rfl okX22 (Nat.le_of_ble_eq_true rfl) rfl ?_
  simp only [Try.f22, Option.getD_some, initSt1]
  simp (disch := first | (simp only [go_sem, Bool.and_self, eq_self]; done) | omega | (simp only [List.length_cons, List.length_nil]; omega)) only [go_sem, ↓reduceIte, Nat.reduceEqDiff, Nat.reduceAdd, Nat.reduceMul, Nat.reduceSub, Int.reduceToNat, Nat.reduceBEq, List.size_toArray, List.length_cons, List.length_nil, Bool.false_and, Bool.true_and, Bool.or_false, Bool.false_or, Bool.and_false, Bool.and_true, hmin, hrow, happ1]
  exact export_Own (f := eP) 38 (.inr ⟨0, rfl, Nat.zero_lt_one, rfl⟩)
theorem f4_con (p t : List (List Int)) (a b : List (Int × Int)) (hp : okLL p) (ht : okLL t) (ha : a.length ≤ maxLen) (hb : b.length ≤ maxLen) : Con Try.prog cfgX 4 [.agg [LLI p, LLI t], .agg [LP a, LP b]] (.bool true) := by
  have ml : maxLen = 9223372036854775807 := by decide
  have k16 := fun h h' K => ConW_any (h := h) (h' := h') (K := K) (lift (by decide) (f16_con p t hp ht)) (by unfold netV; split <;> rfl)
  have k22a := fun h h' K => ConW_any (h := h) (h' := h') (K := K) (f22_con a ha) rfl
  have k22b := fun h h' K => ConW_any (h := h) (h' := h') (K := K) (f22_con b hb) rfl
  have hla : (factM a).length ≤ maxLen := by have := factM_len a; omega
  have hlb : (factM b).length ≤ maxLen := by have := factM_len b; omega
  have n20 : ¬ (2 : Int) = 0 := by decide
  have hst0 : ∀ i, st0 i = .skp := fun _ => rfl
  have h02 : (0 : Nat) < 2 := by decide
  have h12 : (1 : Nat) < 2 := by decide
  have h22 : ¬ (2 : Nat) < 2 := by decide
  have okp := tableM_ok p
  have okt := tableM_ok t
  have hpu : ∀ p t : List (List Int), AV.pureL [.agg [LLI p, LLI t]] = true := fun p t => by simp only [AV.pureL, isPure_agg, isPure_L, Bool.and_true]
  have hpf : ∀ f : List (Int × Int), AV.pureL [LP f] = true := fun f => by simp only [AV.pureL, isPure_L, Bool.and_true]
  generalize factM a = f at *
  generalize factM b = g at *
  generalize tableM p = p' at *
  generalize tableM t = t' at *
  by_cases hnil : p' = [] ∧ t' = []
  · obtain ⟨rfl, rfl⟩ := hnil
    rw [netV_nil] at k16
    have k23 := fun h h' K => ConW_num (h := h) (h' := h') (K := K) (chance_nil f g) rfl
    have k19 := fun h h' K => ConW_num (h := h) (h' := h') (K := K) (lift (by decide) f19_nil) rfl
    have hi : ∀ h : Hp, importR h (.agg [.nil, .nil]) = (.agg [.nil, .nil], h) := fun _ => rfl
    have hs : ∀ h : Hp, sealA h (.agg [.nil, .nil]) = some (.agg [.nil, .nil], h) := fun _ => rfl
    refine Con_intro Try.func4 rfl okX4 (Nat.le_of_ble_eq_true rfl) rfl ?_
    simp only [Try.f4, Option.getD_some, initSt2]
    simp (disch := first | (simp only [go_sem, Bool.and_self, eq_self]; done) | omega | (simp only [List.length_cons, List.length_nil]; omega)) only [go_sem, ↓reduceIte, Nat.reduceEqDiff, Nat.reduceAdd, Nat.reduceMul, Nat.reduceSub, Int.reduceToNat, Nat.reduceBEq, List.size_toArray, List.length_cons, List.length_nil, Bool.false_and, Bool.true_and, Bool.or_false, Bool.false_or, Bool.and_false, Bool.and_true, k16, k22a, k22b, k23, k19, hi, hs, n20, hpu, hpf, List.filterMap_cons, List.filterMap_nil, List.contains_nil, List.contains_cons, Bool.not_false, Bool.not_true, Bool.or_true, h02, h12, h22, hst0]
  · rw [netV_cons hnil] at k16
    have hi : ∀ h : Hp, importR h (.agg [LLI p', LLI t']) = (.agg [LLI p', LLI t'], h) := fun _ => rfl
    have hil : ∀ (h : Hp) (f : List (Int × Int)), importR h (LP f) = (LP f, h) := fun _ _ => rfl
    have kc := fun h h' K => ConW_num (h := h) (h' := h') (K := K) (chance_con p' t' f g okp okt hla hlb) (chance_scalar p' t' f g)
    have kr := fun h h' K => ConW_num (h := h) (h' := h') (K := K) (lift (by decide) (f19_con p' t' okp okt)) rfl
    cases h1 : netB p' t' with
    | false =>
      have hj : chanceR p' t' f g = .tup [.agg [I 0, I 0], I 2] := by simp [chanceR, h1]
      rw [hj] at kc
      refine Con_intro Try.func4 rfl okX4 (Nat.le_of_ble_eq_true rfl) rfl ?_
      simp only [Try.f4, Option.getD_some, initSt2]
      simp (disch := first | (simp only [go_sem, Bool.and_self, eq_self]; done) | omega | (simp only [List.length_cons, List.length_nil]; omega)) only [go_sem, ↓reduceIte, Nat.reduceEqDiff, Nat.reduceAdd, Nat.reduceMul, Nat.reduceSub, Int.reduceToNat, Nat.reduceBEq, List.size_toArray, List.length_cons, List.length_nil, Bool.false_and, Bool.true_and, Bool.or_false, Bool.false_or, Bool.and_false, Bool.and_true, k16, k22a, k22b, kc, kr, h1, hi, hil, n20, hpu, hpf, List.filterMap_cons, List.filterMap_nil, List.contains_nil, List.contains_cons, Bool.not_false, Bool.not_true, Bool.or_true, h02, h12, h22, hst0]
    | true =>
    have N := Net.of h1
    have kf := fun h h' K => ConW_num (h := h) (h' := h') (K := K) (lift (by decide) (f24_con p' t' N f g hla hlb)) (refC_scalar p' t' f g)
    rw [chance_ref h1 f g] at kc
    have hex : ∃ x y c : Int, refC p' t' f g = .tup [.agg [I x, I y], I c] := by
      unfold refC redu
      repeat' split
      all_goals exact ⟨_, _, _, rfl⟩
    obtain ⟨x, y, c, he⟩ := hex
    rw [he] at kc kf
    refine Con_intro Try.func4 rfl okX4 (Nat.le_of_ble_eq_true rfl) rfl ?_
    simp only [Try.f4, Option.getD_some, initSt2]
    simp (disch := first | (simp only [go_sem, Bool.and_self, eq_self]; done) | omega | (simp only [List.length_cons, List.length_nil]; omega)) only [go_sem, ↓reduceIte, Nat.reduceEqDiff, Nat.reduceAdd, Nat.reduceMul, Nat.reduceSub, Int.reduceToNat, Nat.reduceBEq, List.size_toArray, List.length_cons, List.length_nil, Bool.false_and, Bool.true_and, Bool.or_false, Bool.false_or, Bool.and_false, Bool.and_true, k16, k22a, k22b, kc, kr, kf, h1, hi, hil, n20, hpu, hpf, List.filterMap_cons, List.filterMap_nil, List.contains_nil, List.contains_cons, Bool.not_false, Bool.not_true, Bool.or_true, h02, h12, h22, hst0]

end Go.Proofs.Ytpkakapbepkfdaa

set_option linter.unusedVariables false
set_option linter.unusedSimpArgs false
set_option maxRecDepth 10000
namespace Go.Proofs.Ytpkakapbepkfdaa
open Go Go.Am

variable {h h' : Hp} {K : AV → Hp → Prop}

/-- A list of pairs that is built, sealed or not. -/
def Sld (h : Hp) (v : AV) (xs : List (Int × Int)) : Prop :=
  (v = .nil ∧ xs = []) ∨ ∃ id fz, v = .sl id 0 xs.length 2 ∧ id < h.nx ∧ h.bl id = some (.cells fz true (xs.flatMap eP))
theorem Sld.keep {v : AV} {xs : List (Int × Int)} (o : Sld h v xs) (hn : h.nx ≤ h'.nx) (hb : ∀ i, i < h.nx → h'.bl i = h.bl i) : Sld h' v xs := by
  rcases o with o | ⟨id, fz, e, hi, hc⟩
  · exact .inl o
  · exact .inr ⟨id, fz, e, by omega, (hb id hi).trans hc⟩
theorem Sld.shut {v : AV} {xs : List (Int × Int)} (o : Sld h v xs) : ∃ h', sealA h v = some (LP xs, h') ∧ h'.nx = h.nx ∧ Sld h' v xs ∧ ∀ i fz flat, h.bl i = some (.cells fz false flat) → h'.bl i = some (.cells fz false flat) := by
  rcases o with ⟨rfl, rfl⟩ | ⟨id, fz, rfl, hi, hc⟩
  · exact ⟨h, rfl, rfl, .inl ⟨rfl, rfl⟩, fun _ _ _ h => h⟩
  · refine ⟨h.put id (some (.cells true true (xs.flatMap eP))), by rw [sealA_sl, hc, sealSl_own id _ fz true xs rfl], rfl, .inr ⟨id, true, rfl, hi, by simp [Hp.put]⟩, fun i fz' flat hb => ?_⟩
    have : i ≠ id := by rintro rfl; rw [hc] at hb; cases hb
    simp [Hp.put, this, hb]
theorem f22_own (fs : List (Int × Int)) (hf : fs.length ≤ maxLen) : Con Try.prog cfg 22 [LP fs] (.fresh 2 ((factM fs).flatMap eP)) := by
  have ml : maxLen = 9223372036854775807 := by decide
  have hmin : min (fs.length : Int) 20 = ((min fs.length 20 : Nat) : Int) := by omega
  have htl : (factM fs).length = min fs.length 20 := by rw [factM, List.length_take]; omega
  have hrow : fs.take (min fs.length 20) = factM fs := rfl
  have happ1 := fun h => app_nil (P := Try.prog) (h := h) (f := eP) 46 16 (.agg [I 0, I 0]) (LP (factM fs)) (factM fs) isz46 ibytes46 izero46 rfl (cellsOf_L _ _) (lenA_L _ _) (by omega) (by omega)
  refine Con_intro Try.func22 rfl ok22 (Nat.le_of_ble_eq_true rfl) rfl ?_
  simp only [Try.f22, Option.getD_some, initSt1]
  simp (disch := first | (simp only [go_sem, Bool.and_self, eq_self]; done) | omega | (simp only [List.length_cons, List.length_nil]; omega)) only [go_sem, ↓reduceIte, Nat.reduceEqDiff, Nat.reduceAdd, Nat.reduceMul, Nat.reduceSub, Int.reduceToNat, Nat.reduceBEq, List.size_toArray, List.length_cons, List.length_nil, Bool.false_and, Bool.true_and, Bool.or_false, Bool.false_or, Bool.and_false, Bool.and_true, hmin, hrow, happ1]
  exact export_fresh (f := eP) false 38 46 und38 rfl (.inr ⟨0, rfl, Nat.zero_lt_one, rfl⟩)
def SomeR (k : Nat) (x y : Int) : AV → Prop := fun r => ∃ out : List (Int × Int), r = LP out ∧ factsB k out = true ∧ out.length ≤ 6 ∧ ∀ q ∈ out, q.1 ≠ x ∧ q.1 ≠ y
theorem f32_con (P T : List (List Int)) (N : Net P T) (l : List (Int × Int)) (hl : l.length ≤ maxLen) (x y : Int) : ∃ r, Con Try.prog cfg 32 [.agg [LLI P, LLI T], LP l, I x, I y] r ∧ SomeR P.length x y r := by
  have ml : maxLen = 9223372036854775807 := by decide
  have hn1 := N.n1
  refine Con_introE Try.func32 rfl ok32 (Nat.le_of_ble_eq_true rfl) rfl ?_
  simp only [Try.f32, Option.getD_some, initSt4]
  simp (disch := first | (simp only [go_sem, Bool.and_self, eq_self]; done) | omega | (simp only [List.length_cons, List.length_nil]; omega)) only [go_sem, ↓reduceIte, Nat.reduceEqDiff, Nat.reduceAdd, Nat.reduceMul, Nat.reduceSub, Int.reduceToNat, Nat.reduceBEq, List.size_toArray, List.length_cons, List.length_nil, Bool.false_and, Bool.true_and, Bool.or_false, Bool.false_or, Bool.and_false, Bool.and_true]
  refine WP_cut (fun st h => ∃ v xs, st 9 = v ∧ Sld h v xs ∧ factsB P.length xs = true ∧ xs.length ≤ 6 ∧ ∀ q ∈ xs, q.1 ≠ x ∧ q.1 ≠ y) ?_ ?_
  · refine WP_for 10 (min l.length 6) (fun i st h => st 1 = LP l ∧ st 2 = I x ∧ st 3 = I y ∧ st 4 = .ptr 0 0 ∧ h.bl 0 = some (.cells false false [LLI P, LLI T]) ∧ 1 ≤ h.nx ∧ ∃ v xs, st 9 = v ∧ Sld h v xs ∧ factsB P.length xs = true ∧ xs.length ≤ i ∧ ∀ q ∈ xs, q.1 ≠ x ∧ q.1 ≠ y) (by simp (disch := first | (simp only [go_sem, Bool.and_self, eq_self]; done) | omega | (simp only [List.length_cons, List.length_nil]; omega)) only [go_sem, ↓reduceIte, Nat.reduceEqDiff, Nat.reduceAdd, Nat.reduceMul, Nat.reduceSub, Int.reduceToNat, Nat.reduceBEq, List.size_toArray, List.length_cons, List.length_nil, Bool.false_and, Bool.true_and, Bool.or_false, Bool.false_or, Bool.and_false, Bool.and_true]) ⟨by simp (disch := first | (simp only [go_sem, Bool.and_self, eq_self]; done) | omega | (simp only [List.length_cons, List.length_nil]; omega)) only [go_sem, ↓reduceIte, Nat.reduceEqDiff, Nat.reduceAdd, Nat.reduceMul, Nat.reduceSub, Int.reduceToNat, Nat.reduceBEq, List.size_toArray, List.length_cons, List.length_nil, Bool.false_and, Bool.true_and, Bool.or_false, Bool.false_or, Bool.and_false, Bool.and_true], by simp (disch := first | (simp only [go_sem, Bool.and_self, eq_self]; done) | omega | (simp only [List.length_cons, List.length_nil]; omega)) only [go_sem, ↓reduceIte, Nat.reduceEqDiff, Nat.reduceAdd, Nat.reduceMul, Nat.reduceSub, Int.reduceToNat, Nat.reduceBEq, List.size_toArray, List.length_cons, List.length_nil, Bool.false_and, Bool.true_and, Bool.or_false, Bool.false_or, Bool.and_false, Bool.and_true], by simp (disch := first | (simp only [go_sem, Bool.and_self, eq_self]; done) | omega | (simp only [List.length_cons, List.length_nil]; omega)) only [go_sem, ↓reduceIte, Nat.reduceEqDiff, Nat.reduceAdd, Nat.reduceMul, Nat.reduceSub, Int.reduceToNat, Nat.reduceBEq, List.size_toArray, List.length_cons, List.length_nil, Bool.false_and, Bool.true_and, Bool.or_false, Bool.false_or, Bool.and_false, Bool.and_true], by simp (disch := first | (simp only [go_sem, Bool.and_self, eq_self]; done) | omega | (simp only [List.length_cons, List.length_nil]; omega)) only [go_sem, ↓reduceIte, Nat.reduceEqDiff, Nat.reduceAdd, Nat.reduceMul, Nat.reduceSub, Int.reduceToNat, Nat.reduceBEq, List.size_toArray, List.length_cons, List.length_nil, Bool.false_and, Bool.true_and, Bool.or_false, Bool.false_or, Bool.and_false, Bool.and_true], by simp (disch := first | (simp only [go_sem, Bool.and_self, eq_self]; done) | omega | (simp only [List.length_cons, List.length_nil]; omega)) only [go_sem, ↓reduceIte, Nat.reduceEqDiff, Nat.reduceAdd, Nat.reduceMul, Nat.reduceSub, Int.reduceToNat, Nat.reduceBEq, List.size_toArray, List.length_cons, List.length_nil, Bool.false_and, Bool.true_and, Bool.or_false, Bool.false_or, Bool.and_false, Bool.and_true], by simp (disch := first | (simp only [go_sem, Bool.and_self, eq_self]; done) | omega | (simp only [List.length_cons, List.length_nil]; omega)) only [go_sem, ↓reduceIte, Nat.reduceEqDiff, Nat.reduceAdd, Nat.reduceMul, Nat.reduceSub, Int.reduceToNat, Nat.reduceBEq, List.size_toArray, List.length_cons, List.length_nil, Bool.false_and, Bool.true_and, Bool.or_false, Bool.false_or, Bool.and_false, Bool.and_true]; decide, .nil, [], by simp (disch := first | (simp only [go_sem, Bool.and_self, eq_self]; done) | omega | (simp only [List.length_cons, List.length_nil]; omega)) only [go_sem, ↓reduceIte, Nat.reduceEqDiff, Nat.reduceAdd, Nat.reduceMul, Nat.reduceSub, Int.reduceToNat, Nat.reduceBEq, List.size_toArray, List.length_cons, List.length_nil, Bool.false_and, Bool.true_and, Bool.or_false, Bool.false_or, Bool.and_false, Bool.and_true], .inl ⟨rfl, rfl⟩, rfl, by simp, by simp⟩ ?_
    rintro i st h hi s10 ⟨s1, s2, s3, s4, b0, hnx, v, xs, s9, o, hfx, hxl, hxy⟩
    by_cases hlt : i < l.length
    case neg =>
      simp (disch := first | (simp only [go_sem, Bool.and_self, eq_self]; done) | omega | (simp only [List.length_cons, List.length_nil]; omega)) only [go_sem, ↓reduceIte, Nat.reduceEqDiff, Nat.reduceAdd, Nat.reduceMul, Nat.reduceSub, Int.reduceToNat, Nat.reduceBEq, List.size_toArray, List.length_cons, List.length_nil, Bool.false_and, Bool.true_and, Bool.or_false, Bool.false_or, Bool.and_false, Bool.and_true, s1, s2, s3, s4, s10, hlt]
      exact ⟨v, xs, s9, o, hfx, by omega, hxy⟩
    by_cases h6 : (i : Int) < 6
    case neg =>
      simp (disch := first | (simp only [go_sem, Bool.and_self, eq_self]; done) | omega | (simp only [List.length_cons, List.length_nil]; omega)) only [go_sem, ↓reduceIte, Nat.reduceEqDiff, Nat.reduceAdd, Nat.reduceMul, Nat.reduceSub, Int.reduceToNat, Nat.reduceBEq, List.size_toArray, List.length_cons, List.length_nil, Bool.false_and, Bool.true_and, Bool.or_false, Bool.false_or, Bool.and_false, Bool.and_true, s1, s2, s3, s4, s10, hlt, h6]
      exact ⟨v, xs, s9, o, hfx, by omega, hxy⟩
    obtain ⟨h1, hs1, hn1', o1, hb1⟩ := o.shut
    have c0 := hb1 0 _ _ b0
    have kf := fun h h' K => ConW_any (h := h) (h' := h') (K := K) (f22_own xs (by omega)) rfl
    have hfm : factM xs = xs := by rw [factM, List.take_of_length_le]; omega
    rw [hfm] at kf
    have ka := fun h h' K => k31 (h := h) (h' := h') (K := K) (nth l i).1 P.length (by omega)
    have kb := fun h h' K => k31 (h := h) (h' := h') (K := K) (nth l i).2 2 (by decide)
    obtain ⟨a, ha⟩ : ∃ a, a = modI (nth l i).1 P.length := ⟨_, rfl⟩
    obtain ⟨b, hb⟩ : ∃ b, b = modI (nth l i).2 2 := ⟨_, rfl⟩
    have hab := modI_bounds (nth l i).1 (n := (P.length : Int)) (by omega)
    have hbb := modI_bounds (nth l i).2 (n := 2) (by decide)
    rw [← ha] at ka hab
    rw [← hb] at kb hbb
    have hld := loadC_eP 3 (nth l i)
    have g0 : eP (nth l i) = [I (nth l i).1, I (nth l i).2] := rfl
    have hbs := fun h => bsB_row (P := Try.prog) (h := h) (f := eP) (sz := 2) 46 (a, b) (0, 0) isz46 izero46 (by decide)
    have e12 : eP (a, b) = [I a, I b] := rfl
    rw [e12] at hbs
    have dv : ∀ (xs : List (Int × Int)), (xs.flatMap eP).length / 2 = xs.length := fun xs => by rw [flatMap_len (f := eP) (sz := 2)]; omega
    have hG : ((h1.alloc (.cells false true (xs.flatMap eP)))).bl h1.nx = some (.cells false true (xs.flatMap eP)) := by simp [Hp.alloc]
    have happ := app_own (P := Try.prog) (h := h1.alloc (.cells false true (xs.flatMap eP))) (f := eP) 46 16 (.agg [I 0, I 0]) (L eP [(a, b)]) h1.nx xs [(a, b)] xs.length isz46 ibytes46 izero46 rfl hG rfl (cellsOf_L _ _) (lenA_L _ _) (by simp; omega) (by simp; omega)
    have z7 : ∀ i, i < h1.nx → (((h1.alloc (.cells false true (xs.flatMap eP))).put h1.nx none).alloc (.cells false true ((xs ++ [(a, b)]).flatMap eP))).bl i = h1.bl i := fun i hi => by simp [Hp.alloc, Hp.put, show ¬ i = h1.nx by omega, show ¬ i = h1.nx + 1 by omega]
    have n7 : (((h1.alloc (.cells false true (xs.flatMap eP))).put h1.nx none).alloc (.cells false true ((xs ++ [(a, b)]).flatMap eP))).nx = h1.nx + 2 := rfl
    have o7 := o1.keep (h' := ((h1.alloc (.cells false true (xs.flatMap eP))).put h1.nx none).alloc (.cells false true ((xs ++ [(a, b)]).flatMap eP))) (by rw [n7]; omega) z7
    have c7 := (z7 0 (by omega)).trans c0
    have u0 : ¬ 0 = h1.nx := by omega
    generalize hH7 : ((h1.alloc (.cells false true (xs.flatMap eP))).put h1.nx none).alloc (.cells false true ((xs ++ [(a, b)]).flatMap eP)) = h7 at happ o7 c7 n7
    have bl7 : h7.bl (h1.nx + 1) = some (.cells false true ((xs ++ [(a, b)]).flatMap eP)) := by rw [← hH7]; simp [Hp.alloc, Hp.put]
    by_cases hx : a = x
    · have hx' : (decide ¬ a = x) = false := by simp [hx]
      simp (disch := first | (simp only [go_sem, Bool.and_self, eq_self]; done) | omega | (simp only [List.length_cons, List.length_nil]; omega)) only [go_sem, ↓reduceIte, Nat.reduceEqDiff, Nat.reduceAdd, Nat.reduceMul, Nat.reduceSub, Int.reduceToNat, Nat.reduceBEq, List.size_toArray, List.length_cons, List.length_nil, Bool.false_and, Bool.true_and, Bool.or_false, Bool.false_or, Bool.and_false, Bool.and_true, s1, s2, s3, s4, s9, s10, hlt, h6, b0, c0, ka, kb, hs1, kf, hld, g0, List.drop_succ_cons, List.drop_zero, hbs, dv, happ, hx']
      rw [ForK_normal]
      exact ⟨by omega, by simp (disch := first | (simp only [go_sem, Bool.and_self, eq_self]; done) | omega | (simp only [List.length_cons, List.length_nil]; omega)) only [go_sem, ↓reduceIte, Nat.reduceEqDiff, Nat.reduceAdd, Nat.reduceMul, Nat.reduceSub, Int.reduceToNat, Nat.reduceBEq, List.size_toArray, List.length_cons, List.length_nil, Bool.false_and, Bool.true_and, Bool.or_false, Bool.false_or, Bool.and_false, Bool.and_true, s10], by simp (disch := first | (simp only [go_sem, Bool.and_self, eq_self]; done) | omega | (simp only [List.length_cons, List.length_nil]; omega)) only [go_sem, ↓reduceIte, Nat.reduceEqDiff, Nat.reduceAdd, Nat.reduceMul, Nat.reduceSub, Int.reduceToNat, Nat.reduceBEq, List.size_toArray, List.length_cons, List.length_nil, Bool.false_and, Bool.true_and, Bool.or_false, Bool.false_or, Bool.and_false, Bool.and_true, s1], by simp (disch := first | (simp only [go_sem, Bool.and_self, eq_self]; done) | omega | (simp only [List.length_cons, List.length_nil]; omega)) only [go_sem, ↓reduceIte, Nat.reduceEqDiff, Nat.reduceAdd, Nat.reduceMul, Nat.reduceSub, Int.reduceToNat, Nat.reduceBEq, List.size_toArray, List.length_cons, List.length_nil, Bool.false_and, Bool.true_and, Bool.or_false, Bool.false_or, Bool.and_false, Bool.and_true, s2], by simp (disch := first | (simp only [go_sem, Bool.and_self, eq_self]; done) | omega | (simp only [List.length_cons, List.length_nil]; omega)) only [go_sem, ↓reduceIte, Nat.reduceEqDiff, Nat.reduceAdd, Nat.reduceMul, Nat.reduceSub, Int.reduceToNat, Nat.reduceBEq, List.size_toArray, List.length_cons, List.length_nil, Bool.false_and, Bool.true_and, Bool.or_false, Bool.false_or, Bool.and_false, Bool.and_true, s3], by simp (disch := first | (simp only [go_sem, Bool.and_self, eq_self]; done) | omega | (simp only [List.length_cons, List.length_nil]; omega)) only [go_sem, ↓reduceIte, Nat.reduceEqDiff, Nat.reduceAdd, Nat.reduceMul, Nat.reduceSub, Int.reduceToNat, Nat.reduceBEq, List.size_toArray, List.length_cons, List.length_nil, Bool.false_and, Bool.true_and, Bool.or_false, Bool.false_or, Bool.and_false, Bool.and_true, s4], c7, by omega, v, xs, by simp (disch := first | (simp only [go_sem, Bool.and_self, eq_self]; done) | omega | (simp only [List.length_cons, List.length_nil]; omega)) only [go_sem, ↓reduceIte, Nat.reduceEqDiff, Nat.reduceAdd, Nat.reduceMul, Nat.reduceSub, Int.reduceToNat, Nat.reduceBEq, List.size_toArray, List.length_cons, List.length_nil, Bool.false_and, Bool.true_and, Bool.or_false, Bool.false_or, Bool.and_false, Bool.and_true, s9], o7, hfx, by omega, hxy⟩
    have hx' : (decide ¬ a = x) = true := by simp [hx]
    by_cases hy : a = y
    · have hy' : (decide ¬ a = y) = false := by simp [hy]
      simp (disch := first | (simp only [go_sem, Bool.and_self, eq_self]; done) | omega | (simp only [List.length_cons, List.length_nil]; omega)) only [go_sem, ↓reduceIte, Nat.reduceEqDiff, Nat.reduceAdd, Nat.reduceMul, Nat.reduceSub, Int.reduceToNat, Nat.reduceBEq, List.size_toArray, List.length_cons, List.length_nil, Bool.false_and, Bool.true_and, Bool.or_false, Bool.false_or, Bool.and_false, Bool.and_true, s1, s2, s3, s4, s9, s10, hlt, h6, b0, c0, ka, kb, hs1, kf, hld, g0, List.drop_succ_cons, List.drop_zero, hbs, dv, happ, hx', hy']
      rw [ForK_normal]
      exact ⟨by omega, by simp (disch := first | (simp only [go_sem, Bool.and_self, eq_self]; done) | omega | (simp only [List.length_cons, List.length_nil]; omega)) only [go_sem, ↓reduceIte, Nat.reduceEqDiff, Nat.reduceAdd, Nat.reduceMul, Nat.reduceSub, Int.reduceToNat, Nat.reduceBEq, List.size_toArray, List.length_cons, List.length_nil, Bool.false_and, Bool.true_and, Bool.or_false, Bool.false_or, Bool.and_false, Bool.and_true, s10], by simp (disch := first | (simp only [go_sem, Bool.and_self, eq_self]; done) | omega | (simp only [List.length_cons, List.length_nil]; omega)) only [go_sem, ↓reduceIte, Nat.reduceEqDiff, Nat.reduceAdd, Nat.reduceMul, Nat.reduceSub, Int.reduceToNat, Nat.reduceBEq, List.size_toArray, List.length_cons, List.length_nil, Bool.false_and, Bool.true_and, Bool.or_false, Bool.false_or, Bool.and_false, Bool.and_true, s1], by simp (disch := first | (simp only [go_sem, Bool.and_self, eq_self]; done) | omega | (simp only [List.length_cons, List.length_nil]; omega)) only [go_sem, ↓reduceIte, Nat.reduceEqDiff, Nat.reduceAdd, Nat.reduceMul, Nat.reduceSub, Int.reduceToNat, Nat.reduceBEq, List.size_toArray, List.length_cons, List.length_nil, Bool.false_and, Bool.true_and, Bool.or_false, Bool.false_or, Bool.and_false, Bool.and_true, s2], by simp (disch := first | (simp only [go_sem, Bool.and_self, eq_self]; done) | omega | (simp only [List.length_cons, List.length_nil]; omega)) only [go_sem, ↓reduceIte, Nat.reduceEqDiff, Nat.reduceAdd, Nat.reduceMul, Nat.reduceSub, Int.reduceToNat, Nat.reduceBEq, List.size_toArray, List.length_cons, List.length_nil, Bool.false_and, Bool.true_and, Bool.or_false, Bool.false_or, Bool.and_false, Bool.and_true, s3], by simp (disch := first | (simp only [go_sem, Bool.and_self, eq_self]; done) | omega | (simp only [List.length_cons, List.length_nil]; omega)) only [go_sem, ↓reduceIte, Nat.reduceEqDiff, Nat.reduceAdd, Nat.reduceMul, Nat.reduceSub, Int.reduceToNat, Nat.reduceBEq, List.size_toArray, List.length_cons, List.length_nil, Bool.false_and, Bool.true_and, Bool.or_false, Bool.false_or, Bool.and_false, Bool.and_true, s4], c7, by omega, v, xs, by simp (disch := first | (simp only [go_sem, Bool.and_self, eq_self]; done) | omega | (simp only [List.length_cons, List.length_nil]; omega)) only [go_sem, ↓reduceIte, Nat.reduceEqDiff, Nat.reduceAdd, Nat.reduceMul, Nat.reduceSub, Int.reduceToNat, Nat.reduceBEq, List.size_toArray, List.length_cons, List.length_nil, Bool.false_and, Bool.true_and, Bool.or_false, Bool.false_or, Bool.and_false, Bool.and_true, s9], o7, hfx, by omega, hxy⟩
    have hy' : (decide ¬ a = y) = true := by simp [hy]
    have k56 := fun h h' K => ConW_num (h := h) (h' := h') (K := K) (f56_con P.length (by omega) (xs ++ [(a, b)]) (by simp; omega)) rfl
    have hso := fun h => sealSl_own (h := h) (f := eP) (sz := 2) (h1.nx + 1) (xs.length + 1) false true (xs ++ [(a, b)]) (by simp)
    have hpb : ∀ i, i < h1.nx + 1 → (h7.put (h1.nx + 1) (some (.cells true true ((xs ++ [(a, b)]).flatMap eP)))).bl i = h7.bl i := fun i hi => by simp [Hp.put, show ¬ i = h1.nx + 1 by omega]
    have p0 := (hpb 0 (by omega)).trans c7
    have u1 : ¬ 0 = h1.nx + 1 := by omega
    cases hfn : factsB P.length (xs ++ [(a, b)]) with
    | false =>
      simp (disch := first | (simp only [go_sem, Bool.and_self, eq_self]; done) | omega | (simp only [List.length_cons, List.length_nil]; omega)) only [go_sem, ↓reduceIte, Nat.reduceEqDiff, Nat.reduceAdd, Nat.reduceMul, Nat.reduceSub, Int.reduceToNat, Nat.reduceBEq, List.size_toArray, List.length_cons, List.length_nil, Bool.false_and, Bool.true_and, Bool.or_false, Bool.false_or, Bool.and_false, Bool.and_true, s1, s2, s3, s4, s9, s10, hlt, h6, b0, c0, ka, kb, hs1, kf, hld, g0, List.drop_succ_cons, List.drop_zero, hbs, dv, happ, hx', hy', c7, bl7, u0, u1, hso, k56, hfn]
      rw [ForK_normal]
      exact ⟨by omega, by simp (disch := first | (simp only [go_sem, Bool.and_self, eq_self]; done) | omega | (simp only [List.length_cons, List.length_nil]; omega)) only [go_sem, ↓reduceIte, Nat.reduceEqDiff, Nat.reduceAdd, Nat.reduceMul, Nat.reduceSub, Int.reduceToNat, Nat.reduceBEq, List.size_toArray, List.length_cons, List.length_nil, Bool.false_and, Bool.true_and, Bool.or_false, Bool.false_or, Bool.and_false, Bool.and_true, s10], by simp (disch := first | (simp only [go_sem, Bool.and_self, eq_self]; done) | omega | (simp only [List.length_cons, List.length_nil]; omega)) only [go_sem, ↓reduceIte, Nat.reduceEqDiff, Nat.reduceAdd, Nat.reduceMul, Nat.reduceSub, Int.reduceToNat, Nat.reduceBEq, List.size_toArray, List.length_cons, List.length_nil, Bool.false_and, Bool.true_and, Bool.or_false, Bool.false_or, Bool.and_false, Bool.and_true, s1], by simp (disch := first | (simp only [go_sem, Bool.and_self, eq_self]; done) | omega | (simp only [List.length_cons, List.length_nil]; omega)) only [go_sem, ↓reduceIte, Nat.reduceEqDiff, Nat.reduceAdd, Nat.reduceMul, Nat.reduceSub, Int.reduceToNat, Nat.reduceBEq, List.size_toArray, List.length_cons, List.length_nil, Bool.false_and, Bool.true_and, Bool.or_false, Bool.false_or, Bool.and_false, Bool.and_true, s2], by simp (disch := first | (simp only [go_sem, Bool.and_self, eq_self]; done) | omega | (simp only [List.length_cons, List.length_nil]; omega)) only [go_sem, ↓reduceIte, Nat.reduceEqDiff, Nat.reduceAdd, Nat.reduceMul, Nat.reduceSub, Int.reduceToNat, Nat.reduceBEq, List.size_toArray, List.length_cons, List.length_nil, Bool.false_and, Bool.true_and, Bool.or_false, Bool.false_or, Bool.and_false, Bool.and_true, s3], by simp (disch := first | (simp only [go_sem, Bool.and_self, eq_self]; done) | omega | (simp only [List.length_cons, List.length_nil]; omega)) only [go_sem, ↓reduceIte, Nat.reduceEqDiff, Nat.reduceAdd, Nat.reduceMul, Nat.reduceSub, Int.reduceToNat, Nat.reduceBEq, List.size_toArray, List.length_cons, List.length_nil, Bool.false_and, Bool.true_and, Bool.or_false, Bool.false_or, Bool.and_false, Bool.and_true, s4], c7, by omega, v, xs, by simp (disch := first | (simp only [go_sem, Bool.and_self, eq_self]; done) | omega | (simp only [List.length_cons, List.length_nil]; omega)) only [go_sem, ↓reduceIte, Nat.reduceEqDiff, Nat.reduceAdd, Nat.reduceMul, Nat.reduceSub, Int.reduceToNat, Nat.reduceBEq, List.size_toArray, List.length_cons, List.length_nil, Bool.false_and, Bool.true_and, Bool.or_false, Bool.false_or, Bool.and_false, Bool.and_true, s9], o7, hfx, by omega, hxy⟩
    | true =>
      simp (disch := first | (simp only [go_sem, Bool.and_self, eq_self]; done) | omega | (simp only [List.length_cons, List.length_nil]; omega)) only [go_sem, ↓reduceIte, Nat.reduceEqDiff, Nat.reduceAdd, Nat.reduceMul, Nat.reduceSub, Int.reduceToNat, Nat.reduceBEq, List.size_toArray, List.length_cons, List.length_nil, Bool.false_and, Bool.true_and, Bool.or_false, Bool.false_or, Bool.and_false, Bool.and_true, s1, s2, s3, s4, s9, s10, hlt, h6, b0, c0, ka, kb, hs1, kf, hld, g0, List.drop_succ_cons, List.drop_zero, hbs, dv, happ, hx', hy', c7, bl7, u0, u1, hso, k56, hfn]
      rw [ForK_normal]
      refine ⟨by omega, by simp (disch := first | (simp only [go_sem, Bool.and_self, eq_self]; done) | omega | (simp only [List.length_cons, List.length_nil]; omega)) only [go_sem, ↓reduceIte, Nat.reduceEqDiff, Nat.reduceAdd, Nat.reduceMul, Nat.reduceSub, Int.reduceToNat, Nat.reduceBEq, List.size_toArray, List.length_cons, List.length_nil, Bool.false_and, Bool.true_and, Bool.or_false, Bool.false_or, Bool.and_false, Bool.and_true, s10], by simp (disch := first | (simp only [go_sem, Bool.and_self, eq_self]; done) | omega | (simp only [List.length_cons, List.length_nil]; omega)) only [go_sem, ↓reduceIte, Nat.reduceEqDiff, Nat.reduceAdd, Nat.reduceMul, Nat.reduceSub, Int.reduceToNat, Nat.reduceBEq, List.size_toArray, List.length_cons, List.length_nil, Bool.false_and, Bool.true_and, Bool.or_false, Bool.false_or, Bool.and_false, Bool.and_true, s1], by simp (disch := first | (simp only [go_sem, Bool.and_self, eq_self]; done) | omega | (simp only [List.length_cons, List.length_nil]; omega)) only [go_sem, ↓reduceIte, Nat.reduceEqDiff, Nat.reduceAdd, Nat.reduceMul, Nat.reduceSub, Int.reduceToNat, Nat.reduceBEq, List.size_toArray, List.length_cons, List.length_nil, Bool.false_and, Bool.true_and, Bool.or_false, Bool.false_or, Bool.and_false, Bool.and_true, s2], by simp (disch := first | (simp only [go_sem, Bool.and_self, eq_self]; done) | omega | (simp only [List.length_cons, List.length_nil]; omega)) only [go_sem, ↓reduceIte, Nat.reduceEqDiff, Nat.reduceAdd, Nat.reduceMul, Nat.reduceSub, Int.reduceToNat, Nat.reduceBEq, List.size_toArray, List.length_cons, List.length_nil, Bool.false_and, Bool.true_and, Bool.or_false, Bool.false_or, Bool.and_false, Bool.and_true, s3], by simp (disch := first | (simp only [go_sem, Bool.and_self, eq_self]; done) | omega | (simp only [List.length_cons, List.length_nil]; omega)) only [go_sem, ↓reduceIte, Nat.reduceEqDiff, Nat.reduceAdd, Nat.reduceMul, Nat.reduceSub, Int.reduceToNat, Nat.reduceBEq, List.size_toArray, List.length_cons, List.length_nil, Bool.false_and, Bool.true_and, Bool.or_false, Bool.false_or, Bool.and_false, Bool.and_true, s4], c7, by omega, .sl (h1.nx + 1) 0 (xs.length + 1) 2, xs ++ [(a, b)], by simp (disch := first | (simp only [go_sem, Bool.and_self, eq_self]; done) | omega | (simp only [List.length_cons, List.length_nil]; omega)) only [go_sem, ↓reduceIte, Nat.reduceEqDiff, Nat.reduceAdd, Nat.reduceMul, Nat.reduceSub, Int.reduceToNat, Nat.reduceBEq, List.size_toArray, List.length_cons, List.length_nil, Bool.false_and, Bool.true_and, Bool.or_false, Bool.false_or, Bool.and_false, Bool.and_true], .inr ⟨h1.nx + 1, false, by simp, by omega, bl7⟩, hfn, by simp; omega, fun q hq => ?_⟩
      rcases List.mem_append.1 hq with hq | hq
      · exact hxy q hq
      · simp only [List.mem_singleton] at hq; subst hq; exact ⟨hx, hy⟩
  · rintro st h ⟨v, xs, s9, o, hfx, hxl, hxy⟩
    obtain ⟨h1, hs1, _, _, _⟩ := o.shut
    have hex : exportR Try.prog false false [38] h v = some (LP xs) := by
      have hv : exportR Try.prog false false [38] h v = (exportV Try.prog false false 38 h [] v).bind fun r => if isTup r.1 then none else some r.1 := by
        rcases o with ⟨rfl, rfl⟩ | ⟨id, fz, rfl, hi, hc⟩ <;> rfl
      rw [hv, exportV_plain, hs1]; rfl
    simp (disch := first | (simp only [go_sem, Bool.and_self, eq_self]; done) | omega | (simp only [List.length_cons, List.length_nil]; omega)) only [go_sem, ↓reduceIte, Nat.reduceEqDiff, Nat.reduceAdd, Nat.reduceMul, Nat.reduceSub, Int.reduceToNat, Nat.reduceBEq, List.size_toArray, List.length_cons, List.length_nil, Bool.false_and, Bool.true_and, Bool.or_false, Bool.false_or, Bool.and_false, Bool.and_true, s9, hex]
    exact ⟨_, rfl, xs, rfl, hfx, hxl, hxy⟩

end Go.Proofs.Ytpkakapbepkfdaa

set_option linter.unusedVariables false
set_option linter.unusedSimpArgs false
set_option maxRecDepth 10000
namespace Go.Proofs.Ytpkakapbepkfdaa
open Go Go.Am

variable {h h' : Hp} {K : AV → Hp → Prop}

theorem f36_con (a b c d : Int) (ha : 0 ≤ a ∧ a ≤ b) (hb : 0 < b ∧ b ≤ 1073741824) (hc : 0 ≤ c ∧ c ≤ d) (hd : 0 < d ∧ d ≤ 1073741824) : Con Try.prog cfg 36 [.agg [I a, I b], .agg [I c, I d]] (redu (a * c) (b * d)) := by
  have m1 : 0 ≤ a * c := Int.mul_nonneg ha.1 hc.1
  have m2 : 0 < b * d := Int.mul_pos hb.1 hd.1
  have m3 : b * d ≤ 1073741824 * 1073741824 := Int.mul_le_mul hb.2 hd.2 (by omega) (by decide)
  have m4 : a * c ≤ b * d := Int.mul_le_mul ha.2 hc.2 hc.1 (by omega)
  have k35 := fun h h' K => ConW_num (h := h) (h' := h') (K := K) (f35_con (a * c) (b * d) (by omega) (by omega)) rfl
  have hal : ∀ (g : Hp) (x y : Int), allocB g (some (.agg [I x, I y])) = some (.ptr g.nx 0, g.alloc (.cells false false [I x, I y])) := fun g x y => allocB_agg _ rfl
  have n1 : ¬ b < 1 := by omega
  have n2 : ¬ d < 1 := by omega
  have n3 : ¬ 1073741824 < b := by omega
  have n4 : ¬ 1073741824 < d := by omega
  have n5 : ¬ a < 0 := by omega
  have n6 : ¬ c < 0 := by omega
  have n7 : ¬ b < a := by omega
  have n8 : ¬ d < c := by omega
  rw [redu_def] at k35 ⊢
  generalize a * c / gcdI (a * c) (b * d) = u at *
  generalize b * d / gcdI (a * c) (b * d) = v at *
  refine Con_intro Try.func36 rfl ok36 (Nat.le_of_ble_eq_true rfl) rfl ?_
  simp only [Try.f36, Option.getD_some, initSt2]
  simp (disch := first | (simp only [go_sem, Bool.and_self, eq_self]; done) | omega | (simp only [List.length_cons, List.length_nil]; omega)) only [go_sem, ↓reduceIte, Nat.reduceEqDiff, Nat.reduceAdd, Nat.reduceMul, Nat.reduceSub, Int.reduceToNat, Nat.reduceBEq, List.size_toArray, List.length_cons, List.length_nil, Bool.false_and, Bool.true_and, Bool.or_false, Bool.false_or, Bool.and_false, Bool.and_true, hal, n1, n2, n3, n4, n5, n6, n7, n8, k35]
  first | rfl | exact export_pure _ _ rfl

/-! ### The configuration -/
noncomputable def cfgY : Cfg := { cfgX with own := fun f => f == 66 || (f == 55 || (f == 22 || f == 23)), strict := fun a b => cfgX.strict a b || (a == 10 && b == 15), late := fun a b => if a == 10 && b == 15 then [12] else [] }
theorem hextY : ExtOk Try.prog cfgY := by
  intro f args r he
  obtain ⟨h1, h2⟩ := hextX f args r he
  refine ⟨h1, fun ho => h2 ?_⟩
  have ho : (f == 66 || (f == 55 || (f == 22 || f == 23))) = false := ho
  show (f == 66 || f == 55) = false
  simp only [Bool.or_eq_false_iff] at ho ⊢
  exact ⟨ho.1, ho.2.1⟩
theorem toY {f : FuncId} {args : List AV} {r : AV} (hx : ∃ r', extX f args = some r') (hc : Con Try.prog cfgX f args r) : Con Try.prog cfgY f args r := by
  obtain ⟨r', e⟩ := hx
  have h1 : callP Try.prog cfgX 1 f args = some r' := by
    show (match extX f args with | some r => some r | none => _) = _
    rw [e]
  obtain ⟨k, hk⟩ := hc
  rw [← callP_det h1 hk]
  refine ⟨1, ?_⟩
  show (match extX f args with | some r => some r | none => _) = _
  rw [e]
theorem liftY {f : FuncId} {args : List AV} {r : AV} (hb : (decide (f = 23) || (decide (f = 20) || (decide (f = 66) || !baseL.contains f))) = false) (hc : Con Try.prog cfg f args r) : Con Try.prog cfgY f args r := by
  refine toY ?_ (lift hb hc)
  simp only [Bool.or_eq_false_iff, decide_eq_false_iff_not, Bool.not_eq_false'] at hb
  have hex : ∃ r, Con Try.prog cfg f args r := ⟨r, hc⟩
  unfold extX
  rw [if_neg hb.1, if_neg hb.2.1, if_neg hb.2.2.1, if_pos hb.2.2.2, dif_pos hex]
  exact ⟨_, rfl⟩
theorem chanceY (p t : List (List Int)) (f g : List (Int × Int)) (hp : okLL p) (ht : okLL t) (hf : f.length ≤ maxLen) (hg : g.length ≤ maxLen) : Con Try.prog cfgY 23 [.agg [LLI p, LLI t], LP f, LP g] (chanceR p t f g) := by
  refine toY ?_ (chance_con p t f g hp ht hf hg)
  have hr : ChRel [.agg [LLI p, LLI t], LP f, LP g] (chanceR p t f g) := ⟨p, t, f, g, hp, ht, hf, hg, rfl, rfl⟩
  have hex : ∃ r, ChRel [.agg [LLI p, LLI t], LP f, LP g] r := ⟨_, hr⟩
  unfold extX
  rw [if_pos rfl, dif_pos hex]
  exact ⟨_, rfl⟩
theorem awakeY : Con Try.prog cfgY 20 [] (.bool true) := by
  refine toY ?_ awake_con
  unfold extX
  rw [if_neg (by decide), if_pos rfl, if_pos rfl]
  exact ⟨_, rfl⟩
@[go_sem] theorem shrY20 : cfgY.shared 20 = false := by kernel_rfl
@[go_sem] theorem shrY22 : cfgY.shared 22 = false := by kernel_rfl
@[go_sem] theorem shrY23 : cfgY.shared 23 = false := by kernel_rfl
@[go_sem] theorem shrY30 : cfgY.shared 30 = false := by kernel_rfl
@[go_sem] theorem shrY31 : cfgY.shared 31 = false := by kernel_rfl
@[go_sem] theorem shrY32 : cfgY.shared 32 = false := by kernel_rfl
@[go_sem] theorem shrY36 : cfgY.shared 36 = false := by kernel_rfl
@[go_sem] theorem ownY20 : cfgY.own 20 = false := rfl
@[go_sem] theorem ownY22 : cfgY.own 22 = true := rfl
@[go_sem] theorem ownY23 : cfgY.own 23 = true := rfl
@[go_sem] theorem ownY31 : cfgY.own 31 = false := rfl
@[go_sem] theorem ownY32 : cfgY.own 32 = false := rfl
@[go_sem] theorem ownY36 : cfgY.own 36 = false := rfl
@[go_sem] theorem ownY7 : cfgY.own 7 = false := rfl
@[go_sem] theorem knY7 : cfgY.keepNil 7 = false := rfl
@[go_sem] theorem knY22 : cfgY.keepNil 22 = false := rfl
@[go_sem] theorem cfgY_strict (a b : Nat) : cfgY.strict a b = (cfgX.strict a b || (a == 10 && b == 15)) := rfl
@[go_sem] theorem cfgY_wr_10_15 : cfgY.wr 10 15 = [] := rfl
@[go_sem] theorem kY20 : ConW Try.prog cfgY 20 h (some ([], h')) K = K (.bool true) h := ConW_num awakeY rfl
theorem okY7 : funcOk cfgY Try.f7 (Try.f7.body.getD .skip) = true := by kernel_rfl
theorem okY22 : funcOk cfgY Try.f22 (Try.f22.body.getD .skip) = true := by kernel_rfl
theorem f22Y (fs : List (Int × Int)) (hf : fs.length ≤ 20) : Con Try.prog cfgY 22 [LP fs] (.fresh 2 (fs.flatMap eP)) := by
  have ml : maxLen = 9223372036854775807 := by decide
  have hmin : min (fs.length : Int) 20 = ((fs.length : Nat) : Int) := by omega
  have hrow : fs.take fs.length = fs := List.take_length
  have happ1 := fun h => app_nil (P := Try.prog) (h := h) (f := eP) 46 16 (.agg [I 0, I 0]) (LP fs) fs isz46 ibytes46 izero46 rfl (cellsOf_L _ _) (lenA_L _ _) (by omega) (by omega)
  refine Con_intro Try.func22 rfl okY22 (Nat.le_of_ble_eq_true rfl) rfl ?_
  simp only [Try.f22, Option.getD_some, initSt1]
  simp (disch := first | (simp only [go_sem, Bool.and_self, eq_self]; done) | omega | (simp only [List.length_cons, List.length_nil]; omega)) only [go_sem, ↓reduceIte, Nat.reduceEqDiff, Nat.reduceAdd, Nat.reduceMul, Nat.reduceSub, Int.reduceToNat, Nat.reduceBEq, List.size_toArray, List.length_cons, List.length_nil, Bool.false_and, Bool.true_and, Bool.or_false, Bool.false_or, Bool.and_false, Bool.and_true, hmin, hrow, happ1]
  exact export_fresh (f := eP) false 38 46 und38 isz46 (.inr ⟨0, rfl, Nat.zero_lt_one, rfl⟩)

end Go.Proofs.Ytpkakapbepkfdaa

set_option linter.unusedVariables false
set_option linter.unusedSimpArgs false
set_option maxRecDepth 10000
namespace Go.Proofs.Ytpkakapbepkfdaa
open Go Go.Am

theorem redu_scale (x y k : Int) (hk : 0 < k) : redu (x * k) (y * k) = redu x y := by
  have hg : gcdI (x * k) (y * k) = gcdI x y * k := by
    unfold gcdI
    rw [Int.gcd_mul_right, Int.natCast_mul, Int.natAbs_of_nonneg (Int.le_of_lt hk)]
  rw [redu_def, redu_def, hg, Int.mul_ediv_mul_of_pos_left _ _ hk, Int.mul_ediv_mul_of_pos_left _ _ hk]
theorem redu_same {x y u v : Int} (hy : 0 < y) (hv : 0 < v) (he : x * v = u * y) : redu x y = redu u v := by
  rw [← redu_scale x y v hv, ← redu_scale u v y hy, he, Int.mul_comm y v]
theorem redu_le {a b : Int} (ha : 0 ≤ a) (hb : 0 < b) (hab : a ≤ b) : a / gcdI a b ≤ b / gcdI a b := Int.ediv_le_ediv (gcdI_pos hb) hab
/-- The product of the two fractions is the fraction of the whole. -/
theorem redu_chain {s x z : Int} (hs : 0 < s) (hx : 0 < x) (hz : 0 ≤ z) : redu (x / gcdI x s * (z / gcdI z x)) (s / gcdI x s * (x / gcdI z x)) = redu z s := by
  obtain ⟨a1, a2⟩ := redu_mul x s
  obtain ⟨b1, b2⟩ := redu_mul z x
  have g1 : 0 < gcdI x s := gcdI_pos hs
  have g2 : 0 < gcdI z x := gcdI_pos hx
  have p1 : 0 < s / gcdI x s := (redu_bounds (Int.le_of_lt hx) hs).2.1
  have p2 : 0 < x / gcdI z x := (redu_bounds hz hx).2.1
  refine redu_same (Int.mul_pos p1 p2) hs ?_
  generalize gcdI x s = g at *
  generalize gcdI z x = k at *
  generalize x / g = A at *
  generalize s / g = B at *
  generalize z / k = C at *
  generalize x / k = D at *
  grind

theorem agree_app (v : List Int) (f g : List (Int × Int)) : agreeB v (f ++ g) = (agreeB v f && agreeB v g) := by simp only [agreeB, List.all_append]
theorem refS_app (p t : List (List Int)) (f g e : List (Int × Int)) : refS p t f (g ++ e) = refS p t (f ++ e) g := by
  refine sumN_congr fun x _ => ?_
  simp only [refT, agree_app]
  cases agreeB (rowN p.length x) f <;> cases agreeB (rowN p.length x) g <;> cases agreeB (rowN p.length x) e <;> rfl
theorem refS_nil (p t : List (List Int)) (g e : List (Int × Int)) : refS p t (g ++ e) [] = refS p t e g := by
  refine sumN_congr fun x _ => ?_
  have h0 : agreeB (rowN p.length x) [] = true := rfl
  simp only [refT, agree_app, h0]
  cases agreeB (rowN p.length x) g <;> cases agreeB (rowN p.length x) e <;> rfl
theorem sumN_mono {f g : Nat → Int} : ∀ {n : Nat}, (∀ i, i < n → f i ≤ g i) → sumN f n ≤ sumN g n
  | 0, _ => Int.le_refl _
  | n + 1, h => by
    have h1 := sumN_mono (n := n) fun i hi => h i (by omega)
    have h2 := h n (by omega)
    rw [sumN, sumN]; omega
theorem refS_le {p t : List (List Int)} (N : Net p t) (f e g : List (Int × Int)) : refS p t (f ++ e) g ≤ refS p t f g := by
  refine sumN_mono fun x _ => ?_
  have h1 := weight_bounds N (rowN p.length x) (Nat.le_refl _)
  simp only [refT, agree_app]
  cases agreeB (rowN p.length x) f <;> cases agreeB (rowN p.length x) g <;> cases agreeB (rowN p.length x) e <;> simp <;> omega
theorem refS_comm (p t : List (List Int)) (f e g : List (Int × Int)) : refS p t (f ++ e) g = refS p t (e ++ f) g := by
  refine sumN_congr fun x _ => ?_
  simp only [refT, agree_app]
  cases agreeB (rowN p.length x) f <;> cases agreeB (rowN p.length x) g <;> cases agreeB (rowN p.length x) e <;> rfl
theorem refS_top {p t : List (List Int)} (N : Net p t) (f g : List (Int × Int)) (h5 : p.length ≤ 7) : 0 ≤ refS p t f g ∧ refS p t f g ≤ 268435456 := by
  have h0 := refS_bounds N f g
  refine ⟨h0.1, ?_⟩
  have h1 : refS p t f g ≤ sumN (fun x => weightB p t (rowN p.length x) p.length) (2 ^ p.length) := sumN_mono fun x _ => by
    have h1 := weight_bounds N (rowN p.length x) (Nat.le_refl _)
    unfold refT; split <;> omega
  rw [total_weight N] at h1
  have := pow28 (n := p.length) (by omega)
  omega
theorem facts_cons {n : Int} {g : List (Int × Int)} (hg : factsB n g = true) {x v : Int} (hx : 0 ≤ x ∧ x < n) (hv : v = 0 ∨ v = 1) (hf : ∀ q ∈ g, q.1 ≠ x) : factsB n (g ++ [(x, v)]) = true := by
  refine all_range fun i hi => ?_
  simp only [List.length_append, List.length_singleton] at hi
  have last : nth (g ++ [(x, v)]) g.length = (x, v) := by rw [nth, List.getElem?_append_right (Nat.le_refl _)]; simp
  have front : ∀ j, j < g.length → nth (g ++ [(x, v)]) j = nth g j := fun j hj => nth_append_left _ _ _ hj
  by_cases h : i < g.length
  · have := range_all hg h
    simp only [factB, Bool.and_eq_true] at this ⊢
    rw [front i h]
    refine ⟨this.1, all_range fun j hj => ?_⟩
    have := range_all this.2 hj
    rw [front j (by omega)]; exact this
  · have hi' : i = g.length := by omega
    subst hi'
    simp only [factB, Bool.and_eq_true, last, inB, decide_eq_true_eq]
    refine ⟨⟨by omega, by omega⟩, all_range fun j hj => ?_⟩
    rw [front j hj]
    have := hf _ (nth_mem hj)
    simpa using this

end Go.Proofs.Ytpkakapbepkfdaa

set_option linter.unusedVariables false
set_option linter.unusedSimpArgs false
set_option maxRecDepth 10000
namespace Go.Proofs.Ytpkakapbepkfdaa
open Go Go.Am

variable {h h' : Hp} {K : AV → Hp → Prop}

theorem bsB_two (a b c d : Int) (h : Hp) : bsB Try.prog h (some (.slice 46)) 2 [(0, .agg [I a, I b]), (1, .agg [I c, I d])] = some (L eP [(a, b), (c, d)], h) := by
  have isz := isz46
  have hz := izero46
  simp [bsB, isz, hz, fillA, setL, AV.cells, AV.isCell, AV.pureL, AV.isPure, sealArgs, sealA, chunk, chunkF]
  exact ⟨rfl, rfl⟩

/-- A place to stop at. -/
def WPy (P : Program) (cfg : Cfg) (c : Code) (st : St) (h : Hp) (Q : Exit → St → Hp → Prop) : Prop := WP P cfg c st h Q
theorem WPy_congr {P : Program} {cfg : Cfg} {c : Code} {st st' : St} {h h' : Hp} {Q : Exit → St → Hp → Prop} (e : st = st') (e2 : h = h') : WPy P cfg c st h Q = WPy P cfg c st' h' Q := by rw [e, e2]
attribute [congr] WPy_congr
theorem stopY (n : Nat) (d : Bool) {P : Program} {cfg : Cfg} {ops : Array Oper} {st : St} {h : Hp} {Q : Exit → St → Hp → Prop} : WP P cfg (.region n ops d) st h Q = WPy P cfg (.region n ops d) st h Q := rfl
theorem WPy_go {P : Program} {cfg : Cfg} {c : Code} {st : St} {h : Hp} {Q : Exit → St → Hp → Prop} (F : St → Hp → Prop) (hF : F st h) (hw : ∀ st h, F st h → WP P cfg c st h Q) : WPy P cfg c st h Q := hw st h hF

set_option maxHeartbeats 2000000 in
theorem f7_con (p t : List (List Int)) (u w : Int) (l : List (Int × Int)) (hp : okLL p) (ht : okLL t) (hl : l.length ≤ maxLen) : Con Try.prog cfgY 7 [.agg [LLI p, LLI t], .agg [I u, I w], LP l] (.bool true) := by
  have ml : maxLen = 9223372036854775807 := by decide
  obtain ⟨_, c30, P, T, h1, hP5, rfl⟩ := f30_con p t hp ht 5 (by decide)
  have N := Net.of h1
  have hn1 := N.n1
  obtain ⟨okp, okt⟩ := okLL_net h1
  have hx := modI_bounds u (n := (P.length : Int)) (by omega)
  have hy := modI_bounds w (n := (P.length : Int)) (by omega)
  have hbv := modI_bounds u (n := 2) (by omega)
  have ku := fun h h' K => ConW_num (h := h) (h' := h') (K := K) (liftY (by decide) (f31_con u P.length (by omega))) rfl
  have kw := fun h h' K => ConW_num (h := h) (h' := h') (K := K) (liftY (by decide) (f31_con w P.length (by omega))) rfl
  have k2 := fun h h' K => ConW_num (h := h) (h' := h') (K := K) (liftY (by decide) (f31_con u 2 (by omega))) rfl
  generalize modI u P.length = x at *
  generalize modI w P.length = y at *
  generalize modI u 2 = b at *
  obtain ⟨_, c32, g, rfl, hfg, hg6, hgx⟩ := f32_con P T N l hl x y
  have hgl : g.length ≤ maxLen := by omega
  have k30 := fun h h' K => ConW_any (h := h) (h' := h') (K := K) (liftY (by decide) c30) rfl
  have k32 := fun h h' K => ConW_any (h := h) (h' := h') (K := K) (liftY (by decide) c32) rfl
  have hi : ∀ h : Hp, importR h (.agg [LLI P, LLI T]) = (.agg [LLI P, LLI T], h) := fun _ => rfl
  have hil : ∀ (h : Hp) (f : List (Int × Int)), importR h (LP f) = (LP f, h) := fun _ _ => rfl
  by_cases hxy : x = y
  · subst hxy
    refine Con_intro Try.func7 rfl okY7 (Nat.le_of_ble_eq_true rfl) rfl ?_
    simp only [Try.f7, Option.getD_some, initSt3]
    simp (disch := first | (simp only [go_sem, Bool.and_self, eq_self]; done) | omega | (simp only [List.length_cons, List.length_nil]; omega)) only [go_sem, ↓reduceIte, Nat.reduceEqDiff, Nat.reduceAdd, Nat.reduceMul, Nat.reduceSub, Int.reduceToNat, Nat.reduceBEq, List.size_toArray, List.length_cons, List.length_nil, Bool.false_and, Bool.true_and, Bool.or_false, Bool.false_or, Bool.and_false, Bool.and_true, k30, ku, kw, k32, hi, hil]
  have hfa : factsB P.length [(x, 1)] = true := facts_cons (g := []) rfl hx (.inr rfl) (by simp)
  have hfb : factsB P.length [(y, b)] = true := facts_cons (g := []) rfl hy (by omega) (by simp)
  have hfab : factsB P.length [(x, 1), (y, b)] = true := facts_cons (g := [(x, 1)]) hfa hy (by omega) (by simp [hxy])
  have hfga : factsB P.length (g ++ [(x, 1)]) = true := facts_cons hfg hx (.inr rfl) (fun q hq => (hgx q hq).1)
  have hlga : (g ++ [(x, 1)]).length ≤ maxLen := by simp; omega
  have kab := fun h h' K => ConW_num (h := h) (h' := h') (K := K) (chanceY P T [(x, 1), (y, b)] g okp okt (by simp [ml]) hgl) (chance_scalar P T _ g)
  have ka := fun h h' K => ConW_num (h := h) (h' := h') (K := K) (chanceY P T [(x, 1)] g okp okt (by simp [ml]) hgl) (chance_scalar P T _ g)
  have kb := fun h h' K => ConW_num (h := h) (h' := h') (K := K) (chanceY P T [(y, b)] (g ++ [(x, 1)]) okp okt (by simp [ml]) hlga) (chance_scalar P T _ _)
  rw [chance_ref h1] at kab ka kb
  simp only [refC, hfa, hfb, hfab, hfga, hfg, Bool.and_self, if_true] at kab ka kb
  rw [refS_nil, refS_app, refS_comm] at kb
  have q1 := refS_le N g [(x, 1)] []
  rw [refS_nil] at q1
  have q2 := refS_le N [(x, 1)] [(y, b)] g
  have q3 := refS_top N g [] (by omega)
  have q4 := refS_top N ([(x, 1)] ++ [(y, b)]) g (by omega)
  have e2 : [(x, 1)] ++ [(y, b)] = [(x, 1), (y, b)] := rfl
  rw [e2] at kb q2 q4
  generalize refS P T g [] = S at *
  generalize refS P T [(x, 1)] g = A at *
  generalize refS P T [(x, 1), (y, b)] g = D at *
  have k22 := fun h h' K => ConW_any (h := h) (h' := h') (K := K) (f22Y g (by omega)) rfl
  have g0 : ∀ a b : Int, eP (a, b) = [I a, I b] := fun _ _ => rfl
  have hbs := fun h a b => bsB_row (P := Try.prog) (h := h) (f := eP) (sz := 2) 46 (a, b) (0, 0) isz46 izero46 (by decide)
  simp only [g0] at hbs
  have dv : ∀ (xs : List (Int × Int)), (xs.flatMap eP).length / 2 = xs.length := fun xs => by rw [flatMap_len (f := eP) (sz := 2)]; omega
  have happ := fun (H : Hp) (id : Nat) (hG : H.bl id = some (.cells false true (g.flatMap eP))) => app_own (P := Try.prog) (h := H) (f := eP) 46 16 (.agg [I 0, I 0]) (L eP [(x, 1)]) id g [(x, 1)] g.length isz46 ibytes46 izero46 rfl hG rfl (cellsOf_L _ _) (lenA_L _ _) (by simp; omega) (by simp; omega)
  have n60 : ¬ (6 : Int) = 0 := by decide
  have hso := fun h id => sealSl_own (h := h) (f := eP) (sz := 2) id (g.length + 1) false true (g ++ [(x, 1)]) (by simp)
  obtain ⟨a1, a2, a3, ea⟩ : ∃ a1 a2 a3 : Int, (if S = 0 then AV.tup [.agg [I 0, I 0], I 6] else .tup [redu A S, I 0]) = .tup [.agg [I a1, I a2], I a3] := by split <;> exact ⟨_, _, _, rfl⟩
  obtain ⟨b1, b2, b3, eb⟩ : ∃ a1 a2 a3 : Int, (if S = 0 then AV.tup [.agg [I 0, I 0], I 6] else .tup [redu D S, I 0]) = .tup [.agg [I a1, I a2], I a3] := by split <;> exact ⟨_, _, _, rfl⟩
  obtain ⟨c1, c2, c3, ec⟩ : ∃ a1 a2 a3 : Int, (if A = 0 then AV.tup [.agg [I 0, I 0], I 6] else .tup [redu D A, I 0]) = .tup [.agg [I a1, I a2], I a3] := by split <;> exact ⟨_, _, _, rfl⟩
  rw [ea] at ka
  rw [eb] at kab
  rw [ec] at kb
  refine Con_intro Try.func7 rfl okY7 (Nat.le_of_ble_eq_true rfl) rfl ?_
  simp only [Try.f7, Option.getD_some, initSt3]
  simp (disch := first | (simp only [go_sem, Bool.and_self, eq_self]; done) | omega | (simp only [List.length_cons, List.length_nil]; omega)) only [go_sem, ↓reduceIte, Nat.reduceEqDiff, Nat.reduceAdd, Nat.reduceMul, Nat.reduceSub, Int.reduceToNat, Nat.reduceBEq, List.size_toArray, List.length_cons, List.length_nil, Bool.false_and, Bool.true_and, Bool.or_false, Bool.false_or, Bool.and_false, Bool.and_true, k30, ku, kw, k2, k32, hi, hil, hxy, kab, ka, g0, hbs, bsB_two, ↓stopY 10 true]
  refine WPy_go (fun st h => st 18 = .skp ∧ st 6 = .bool false ∧ st 7 = .ptr 2 0 ∧ st 11 = LP g ∧ st 12 = .ptr 3 0 ∧ st 13 = .ptr 4 0 ∧ st 14 = .ptr 5 0 ∧ st 15 = I b3 ∧ st 16 = .ptr 6 0 ∧ st 17 = I a3 ∧ h.nx = 7 ∧ h.bl 2 = some (.cells false false [LLI P, LLI T]) ∧ h.bl 3 = some (.cells false false [I x, I 1]) ∧ h.bl 4 = some (.cells false false [I y, I b]) ∧ h.bl 5 = some (.cells false false [I b1, I b2]) ∧ h.bl 6 = some (.cells false false [I a1, I a2])) ⟨by simp (disch := first | (simp only [go_sem, Bool.and_self, eq_self]; done) | omega | (simp only [List.length_cons, List.length_nil]; omega)) only [go_sem, ↓reduceIte, Nat.reduceEqDiff, Nat.reduceAdd, Nat.reduceMul, Nat.reduceSub, Int.reduceToNat, Nat.reduceBEq, List.size_toArray, List.length_cons, List.length_nil, Bool.false_and, Bool.true_and, Bool.or_false, Bool.false_or, Bool.and_false, Bool.and_true, show st0 18 = .skp from rfl], by simp (disch := first | (simp only [go_sem, Bool.and_self, eq_self]; done) | omega | (simp only [List.length_cons, List.length_nil]; omega)) only [go_sem, ↓reduceIte, Nat.reduceEqDiff, Nat.reduceAdd, Nat.reduceMul, Nat.reduceSub, Int.reduceToNat, Nat.reduceBEq, List.size_toArray, List.length_cons, List.length_nil, Bool.false_and, Bool.true_and, Bool.or_false, Bool.false_or, Bool.and_false, Bool.and_true, show st0 18 = .skp from rfl], by simp (disch := first | (simp only [go_sem, Bool.and_self, eq_self]; done) | omega | (simp only [List.length_cons, List.length_nil]; omega)) only [go_sem, ↓reduceIte, Nat.reduceEqDiff, Nat.reduceAdd, Nat.reduceMul, Nat.reduceSub, Int.reduceToNat, Nat.reduceBEq, List.size_toArray, List.length_cons, List.length_nil, Bool.false_and, Bool.true_and, Bool.or_false, Bool.false_or, Bool.and_false, Bool.and_true, show st0 18 = .skp from rfl], by simp (disch := first | (simp only [go_sem, Bool.and_self, eq_self]; done) | omega | (simp only [List.length_cons, List.length_nil]; omega)) only [go_sem, ↓reduceIte, Nat.reduceEqDiff, Nat.reduceAdd, Nat.reduceMul, Nat.reduceSub, Int.reduceToNat, Nat.reduceBEq, List.size_toArray, List.length_cons, List.length_nil, Bool.false_and, Bool.true_and, Bool.or_false, Bool.false_or, Bool.and_false, Bool.and_true, show st0 18 = .skp from rfl], by simp (disch := first | (simp only [go_sem, Bool.and_self, eq_self]; done) | omega | (simp only [List.length_cons, List.length_nil]; omega)) only [go_sem, ↓reduceIte, Nat.reduceEqDiff, Nat.reduceAdd, Nat.reduceMul, Nat.reduceSub, Int.reduceToNat, Nat.reduceBEq, List.size_toArray, List.length_cons, List.length_nil, Bool.false_and, Bool.true_and, Bool.or_false, Bool.false_or, Bool.and_false, Bool.and_true, show st0 18 = .skp from rfl], by simp (disch := first | (simp only [go_sem, Bool.and_self, eq_self]; done) | omega | (simp only [List.length_cons, List.length_nil]; omega)) only [go_sem, ↓reduceIte, Nat.reduceEqDiff, Nat.reduceAdd, Nat.reduceMul, Nat.reduceSub, Int.reduceToNat, Nat.reduceBEq, List.size_toArray, List.length_cons, List.length_nil, Bool.false_and, Bool.true_and, Bool.or_false, Bool.false_or, Bool.and_false, Bool.and_true, show st0 18 = .skp from rfl], by simp (disch := first | (simp only [go_sem, Bool.and_self, eq_self]; done) | omega | (simp only [List.length_cons, List.length_nil]; omega)) only [go_sem, ↓reduceIte, Nat.reduceEqDiff, Nat.reduceAdd, Nat.reduceMul, Nat.reduceSub, Int.reduceToNat, Nat.reduceBEq, List.size_toArray, List.length_cons, List.length_nil, Bool.false_and, Bool.true_and, Bool.or_false, Bool.false_or, Bool.and_false, Bool.and_true, show st0 18 = .skp from rfl], by simp (disch := first | (simp only [go_sem, Bool.and_self, eq_self]; done) | omega | (simp only [List.length_cons, List.length_nil]; omega)) only [go_sem, ↓reduceIte, Nat.reduceEqDiff, Nat.reduceAdd, Nat.reduceMul, Nat.reduceSub, Int.reduceToNat, Nat.reduceBEq, List.size_toArray, List.length_cons, List.length_nil, Bool.false_and, Bool.true_and, Bool.or_false, Bool.false_or, Bool.and_false, Bool.and_true, show st0 18 = .skp from rfl], by simp (disch := first | (simp only [go_sem, Bool.and_self, eq_self]; done) | omega | (simp only [List.length_cons, List.length_nil]; omega)) only [go_sem, ↓reduceIte, Nat.reduceEqDiff, Nat.reduceAdd, Nat.reduceMul, Nat.reduceSub, Int.reduceToNat, Nat.reduceBEq, List.size_toArray, List.length_cons, List.length_nil, Bool.false_and, Bool.true_and, Bool.or_false, Bool.false_or, Bool.and_false, Bool.and_true, show st0 18 = .skp from rfl], by simp (disch := first | (simp only [go_sem, Bool.and_self, eq_self]; done) | omega | (simp only [List.length_cons, List.length_nil]; omega)) only [go_sem, ↓reduceIte, Nat.reduceEqDiff, Nat.reduceAdd, Nat.reduceMul, Nat.reduceSub, Int.reduceToNat, Nat.reduceBEq, List.size_toArray, List.length_cons, List.length_nil, Bool.false_and, Bool.true_and, Bool.or_false, Bool.false_or, Bool.and_false, Bool.and_true, show st0 18 = .skp from rfl], by simp (disch := first | (simp only [go_sem, Bool.and_self, eq_self]; done) | omega | (simp only [List.length_cons, List.length_nil]; omega)) only [go_sem, ↓reduceIte, Nat.reduceEqDiff, Nat.reduceAdd, Nat.reduceMul, Nat.reduceSub, Int.reduceToNat, Nat.reduceBEq, List.size_toArray, List.length_cons, List.length_nil, Bool.false_and, Bool.true_and, Bool.or_false, Bool.false_or, Bool.and_false, Bool.and_true]⟩ ?_
  rintro st h ⟨s18, s6, s7, s11, s12, s13, s14, s15, s16, s17, hnx, c2', c3', c4', c5', c6'⟩
  have happ' := happ (h.alloc (.cells false true (g.flatMap eP))) 7 (by simp [Hp.alloc, hnx])
  rw [show (h.alloc (.cells false true (g.flatMap eP))).nx = 8 by rw [alloc_nx, hnx], show g.length + [(x, (1 : Int))].length = g.length + 1 from rfl] at happ'
  obtain ⟨h8, e8⟩ : ∃ h8, h8 = ((h.alloc (.cells false true (g.flatMap eP))).put 7 none).alloc (.cells false true ((g ++ [(x, 1)]).flatMap eP)) := ⟨_, rfl⟩
  have n8 : h8.nx = 9 := by rw [e8, alloc_nx, put_nx, alloc_nx, hnx]
  have b8 : h8.bl 8 = some (.cells false true ((g ++ [(x, 1)]).flatMap eP)) := by rw [e8]; simp [Hp.alloc, Hp.put, hnx]
  have l8 : ∀ i, i < 7 → h8.bl i = h.bl i := fun i hi => by
    rw [e8]; simp [Hp.alloc, Hp.put, hnx, show i ≠ 8 by omega, show i ≠ 7 by omega]
  rw [← e8] at happ'
  have d5 := (l8 5 (by decide)).trans c5'
  have d6 := (l8 6 (by decide)).trans c6'
  simp (maxSteps := 3000000) (disch := first | (simp only [go_sem, Bool.and_self, eq_self]; done) | omega | (simp only [List.length_cons, List.length_nil]; omega)) only [go_sem, ↓reduceIte, Nat.reduceEqDiff, Nat.reduceAdd, Nat.reduceMul, Nat.reduceSub, Int.reduceToNat, Nat.reduceBEq, List.size_toArray, List.length_cons, List.length_nil, Bool.false_and, Bool.true_and, Bool.or_false, Bool.false_or, Bool.and_false, Bool.and_true, s18, s6, s7, s11, s12, s13, s14, s15, s16, s17, hnx, c2', c3', c4', k22, g0, hbs, dv, happ', n8, b8, hso, kb, ↓stopY 11 false, List.filterMap_cons, List.filterMap_nil, List.contains_nil, List.contains_cons, Bool.not_false, Bool.not_true, Bool.or_true, Bool.true_or, List.nil_append, List.cons_append, Nat.reduceLT, decide_true, decide_false, List.drop_succ_cons]
  refine WPy_go (fun st h => st 6 = .bool false ∧ st 14 = .ptr 5 0 ∧ st 15 = I b3 ∧ st 16 = .ptr 6 0 ∧ st 17 = I a3 ∧ st 18 = .ptr 9 0 ∧ st 19 = I c3 ∧ h.nx = 10 ∧ h.bl 5 = some (.cells false false [I b1, I b2]) ∧ h.bl 6 = some (.cells false false [I a1, I a2]) ∧ h.bl 9 = some (.cells false false [I c1, I c2])) ⟨by simp (disch := first | (simp only [go_sem, Bool.and_self, eq_self]; done) | omega | (simp only [List.length_cons, List.length_nil]; omega)) only [go_sem, ↓reduceIte, Nat.reduceEqDiff, Nat.reduceAdd, Nat.reduceMul, Nat.reduceSub, Int.reduceToNat, Nat.reduceBEq, List.size_toArray, List.length_cons, List.length_nil, Bool.false_and, Bool.true_and, Bool.or_false, Bool.false_or, Bool.and_false, Bool.and_true, s18, s6, s7, s11, s12, s13, s14, s15, s16, s17], by simp (disch := first | (simp only [go_sem, Bool.and_self, eq_self]; done) | omega | (simp only [List.length_cons, List.length_nil]; omega)) only [go_sem, ↓reduceIte, Nat.reduceEqDiff, Nat.reduceAdd, Nat.reduceMul, Nat.reduceSub, Int.reduceToNat, Nat.reduceBEq, List.size_toArray, List.length_cons, List.length_nil, Bool.false_and, Bool.true_and, Bool.or_false, Bool.false_or, Bool.and_false, Bool.and_true, s18, s6, s7, s11, s12, s13, s14, s15, s16, s17], by simp (disch := first | (simp only [go_sem, Bool.and_self, eq_self]; done) | omega | (simp only [List.length_cons, List.length_nil]; omega)) only [go_sem, ↓reduceIte, Nat.reduceEqDiff, Nat.reduceAdd, Nat.reduceMul, Nat.reduceSub, Int.reduceToNat, Nat.reduceBEq, List.size_toArray, List.length_cons, List.length_nil, Bool.false_and, Bool.true_and, Bool.or_false, Bool.false_or, Bool.and_false, Bool.and_true, s18, s6, s7, s11, s12, s13, s14, s15, s16, s17], by simp (disch := first | (simp only [go_sem, Bool.and_self, eq_self]; done) | omega | (simp only [List.length_cons, List.length_nil]; omega)) only [go_sem, ↓reduceIte, Nat.reduceEqDiff, Nat.reduceAdd, Nat.reduceMul, Nat.reduceSub, Int.reduceToNat, Nat.reduceBEq, List.size_toArray, List.length_cons, List.length_nil, Bool.false_and, Bool.true_and, Bool.or_false, Bool.false_or, Bool.and_false, Bool.and_true, s18, s6, s7, s11, s12, s13, s14, s15, s16, s17], by simp (disch := first | (simp only [go_sem, Bool.and_self, eq_self]; done) | omega | (simp only [List.length_cons, List.length_nil]; omega)) only [go_sem, ↓reduceIte, Nat.reduceEqDiff, Nat.reduceAdd, Nat.reduceMul, Nat.reduceSub, Int.reduceToNat, Nat.reduceBEq, List.size_toArray, List.length_cons, List.length_nil, Bool.false_and, Bool.true_and, Bool.or_false, Bool.false_or, Bool.and_false, Bool.and_true, s18, s6, s7, s11, s12, s13, s14, s15, s16, s17], by simp (disch := first | (simp only [go_sem, Bool.and_self, eq_self]; done) | omega | (simp only [List.length_cons, List.length_nil]; omega)) only [go_sem, ↓reduceIte, Nat.reduceEqDiff, Nat.reduceAdd, Nat.reduceMul, Nat.reduceSub, Int.reduceToNat, Nat.reduceBEq, List.size_toArray, List.length_cons, List.length_nil, Bool.false_and, Bool.true_and, Bool.or_false, Bool.false_or, Bool.and_false, Bool.and_true, s18, s6, s7, s11, s12, s13, s14, s15, s16, s17], by simp (disch := first | (simp only [go_sem, Bool.and_self, eq_self]; done) | omega | (simp only [List.length_cons, List.length_nil]; omega)) only [go_sem, ↓reduceIte, Nat.reduceEqDiff, Nat.reduceAdd, Nat.reduceMul, Nat.reduceSub, Int.reduceToNat, Nat.reduceBEq, List.size_toArray, List.length_cons, List.length_nil, Bool.false_and, Bool.true_and, Bool.or_false, Bool.false_or, Bool.and_false, Bool.and_true, s18, s6, s7, s11, s12, s13, s14, s15, s16, s17], by simp (disch := first | (simp only [go_sem, Bool.and_self, eq_self]; done) | omega | (simp only [List.length_cons, List.length_nil]; omega)) only [go_sem, ↓reduceIte, Nat.reduceEqDiff, Nat.reduceAdd, Nat.reduceMul, Nat.reduceSub, Int.reduceToNat, Nat.reduceBEq, List.size_toArray, List.length_cons, List.length_nil, Bool.false_and, Bool.true_and, Bool.or_false, Bool.false_or, Bool.and_false, Bool.and_true, n8], by simp (disch := first | (simp only [go_sem, Bool.and_self, eq_self]; done) | omega | (simp only [List.length_cons, List.length_nil]; omega)) only [go_sem, ↓reduceIte, Nat.reduceEqDiff, Nat.reduceAdd, Nat.reduceMul, Nat.reduceSub, Int.reduceToNat, Nat.reduceBEq, List.size_toArray, List.length_cons, List.length_nil, Bool.false_and, Bool.true_and, Bool.or_false, Bool.false_or, Bool.and_false, Bool.and_true, d5, n8], by simp (disch := first | (simp only [go_sem, Bool.and_self, eq_self]; done) | omega | (simp only [List.length_cons, List.length_nil]; omega)) only [go_sem, ↓reduceIte, Nat.reduceEqDiff, Nat.reduceAdd, Nat.reduceMul, Nat.reduceSub, Int.reduceToNat, Nat.reduceBEq, List.size_toArray, List.length_cons, List.length_nil, Bool.false_and, Bool.true_and, Bool.or_false, Bool.false_or, Bool.and_false, Bool.and_true, d6, n8], by simp (disch := first | (simp only [go_sem, Bool.and_self, eq_self]; done) | omega | (simp only [List.length_cons, List.length_nil]; omega)) only [go_sem, ↓reduceIte, Nat.reduceEqDiff, Nat.reduceAdd, Nat.reduceMul, Nat.reduceSub, Int.reduceToNat, Nat.reduceBEq, List.size_toArray, List.length_cons, List.length_nil, Bool.false_and, Bool.true_and, Bool.or_false, Bool.false_or, Bool.and_false, Bool.and_true, n8]⟩ ?_
  clear s18 s6 s7 s11 s12 s13 s14 s15 s16 s17 c2' c3' c4' c5' c6' d5 d6 n8 l8 b8 happ' hnx h e8
  rintro st h ⟨s6, s14, s15, s16, s17, s18, s19, hnx, c5, c6, c9⟩
  have kaw : ∀ h h' K, ConW Try.prog cfgY 20 h (some ([], h')) K = K (.bool true) h := fun h h' K => kY20
  by_cases hS : S = 0
  · have hA : A = 0 := by omega
    rw [if_pos hS] at ea eb
    rw [if_pos hA] at ec
    cases ea; cases eb; cases ec
    simp (disch := first | (simp only [go_sem, Bool.and_self, eq_self]; done) | omega | (simp only [List.length_cons, List.length_nil]; omega)) only [go_sem, ↓reduceIte, Nat.reduceEqDiff, Nat.reduceAdd, Nat.reduceMul, Nat.reduceSub, Int.reduceToNat, Nat.reduceBEq, List.size_toArray, List.length_cons, List.length_nil, Bool.false_and, Bool.true_and, Bool.or_false, Bool.false_or, Bool.and_false, Bool.and_true, s6, s14, s15, s16, s17, s18, s19, c5, c6, c9, n60]
  rw [if_neg hS, redu_def] at ea eb
  obtain ⟨g1, g2, g3, g4⟩ := redu_bounds (a := A) (b := S) (by omega) (by omega)
  obtain ⟨g5, g6, g7, g8⟩ := redu_bounds (a := D) (b := S) (by omega) (by omega)
  by_cases hA : A = 0
  · rw [if_pos hA] at ec
    have hD : D = 0 := by omega
    subst hA hD
    simp only [Int.zero_ediv] at ea eb
    cases ea; cases eb; cases ec
    simp (disch := first | (simp only [go_sem, Bool.and_self, eq_self]; done) | omega | (simp only [List.length_cons, List.length_nil]; omega)) only [go_sem, ↓reduceIte, Nat.reduceEqDiff, Nat.reduceAdd, Nat.reduceMul, Nat.reduceSub, Int.reduceToNat, Nat.reduceBEq, List.size_toArray, List.length_cons, List.length_nil, Bool.false_and, Bool.true_and, Bool.or_false, Bool.false_or, Bool.and_false, Bool.and_true, s6, s14, s15, s16, s17, s18, s19, c5, c6, c9, n60]
  rw [if_neg hA, redu_def] at ec
  obtain ⟨g9, g10, g11, g12⟩ := redu_bounds (a := D) (b := A) (by omega) (by omega)
  have hpos := redu_pos (a := A) (b := S) (by omega) (by omega)
  have k36 := fun h h' K => ConW_num (h := h) (h' := h') (K := K) (liftY (by decide) (f36_con (A / gcdI A S) (S / gcdI A S) (D / gcdI D A) (A / gcdI D A) ⟨g1, redu_le (by omega) (by omega) (by omega)⟩ ⟨g2, by omega⟩ ⟨g9, redu_le (by omega) (by omega) (by omega)⟩ ⟨g10, by omega⟩)) rfl
  rw [redu_chain (by omega) (by omega) (by omega), redu_def] at k36
  have hn0 : ¬ A / gcdI A S = 0 := by omega
  generalize A / gcdI A S = w1 at *
  generalize S / gcdI A S = w2 at *
  generalize D / gcdI D S = w3 at *
  generalize S / gcdI D S = w4 at *
  generalize D / gcdI D A = w5 at *
  generalize A / gcdI D A = w6 at *
  cases ea; cases eb; cases ec
  simp (disch := first | (simp only [go_sem, Bool.and_self, eq_self]; done) | omega | (simp only [List.length_cons, List.length_nil]; omega)) only [go_sem, ↓reduceIte, Nat.reduceEqDiff, Nat.reduceAdd, Nat.reduceMul, Nat.reduceSub, Int.reduceToNat, Nat.reduceBEq, List.size_toArray, List.length_cons, List.length_nil, Bool.false_and, Bool.true_and, Bool.or_false, Bool.false_or, Bool.and_false, Bool.and_true, s6, s14, s15, s16, s17, s18, s19, hnx, c5, c6, c9, n60, hn0, k36]

end Go.Proofs.Ytpkakapbepkfdaa
