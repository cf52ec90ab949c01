/-
  A small chain, handed over whole.
  What scaling, and what raising pay or lowering cost, do to the values: plain Lean.
  The configuration of the laws that write into chains.
  What raising pay, or lowering cost, does to the values: plain Lean.
  'StopMore' answers true.
-/
import Derived.Test.YtgamcclfdkpcgaaL2M2
set_option linter.unusedVariables false
set_option linter.unusedSimpArgs false
set_option maxRecDepth 10000
namespace Go.Proofs.Ytgamcclfdkpcgaa
open Go Go.Am

variable {h h' : Hp} {K : AV → Hp → Prop}

open Classical in
noncomputable def extB (f : FuncId) (args : List AV) : Option AV :=
  if decide (f = 15) = true then none else if h : ∃ r, Con Try.prog cfg f args r then some h.choose else none
noncomputable def cfgB : Cfg := { cfg with ext := extB, own := fun f => f == 15, keepNil := fun f => f == 15 }
theorem hextB : ExtOk Try.prog cfgB := by
  intro f args r he
  have he : extB f args = some r := he
  unfold extB at he
  split at he
  · cases he
  · split at he
    · rename_i h
      cases he
      obtain ⟨k, hk⟩ := h.choose_spec
      exact ⟨(sound hext0 k).2.2.1 _ _ _ hk, fun ho => callP_pure (P := Try.prog) (cfg := cfg) (fun _ _ _ h => by cases h) rfl hk⟩
    · cases he
theorem toB {f : FuncId} {args : List AV} {r : AV} (hb : decide (f = 15) = false) (hc : Con Try.prog cfg f args r) : Con Try.prog cfgB f args r := by
  refine ⟨1, ?_⟩
  have : extB f args = some r := by
    unfold extB
    have hex : ∃ r, Con Try.prog cfg f args r := ⟨r, hc⟩
    rw [if_neg (by rw [hb]; decide), dif_pos hex]
    obtain ⟨k, hk⟩ := hex.choose_spec
    obtain ⟨k', hk'⟩ := hc
    rw [callP_det hk hk']
  show (match extB f args with | some r => some r | none => _) = _
  rw [this]
@[go_sem] theorem cfgB_strict (a b : Nat) : cfgB.strict a b = cfg.strict a b := rfl
@[go_sem] theorem cfgB_shr (f : Nat) : cfgB.shared f = cfg.shared f := rfl
@[go_sem] theorem cfgB_wr (a b : Nat) : cfgB.wr a b = cfg.wr a b := rfl
@[go_sem] theorem ownB15 : cfgB.own 15 = true := rfl
@[go_sem] theorem cfgB_kn15 : cfgB.keepNil 15 = true := rfl
theorem okB15 : funcOk cfgB Try.f15 (Try.f15.body.getD .skip) = true := by kernel_rfl

theorem f15_B (nx : List (List Int)) (pay cost : List Int) (hk : okN nx pay cost) (m : Nat) (hm : 1 ≤ m ∧ m ≤ 5) (c1 : (chB (nxM nx) (listM pay) (listM cost) && decide ((nxM nx).length ≤ m)) = false) : ∃ nx' pay' cost', (chB nx' pay' cost' = true ∧ nx'.length ≤ m) ∧ Con Try.prog cfgB 15 [chA nx pay cost, I m] (ownCh nx' pay' cost') := by
  have ml : maxLen = 9223372036854775807 := by decide
  have hal : ∀ (g : Hp) nx pay cost, allocB g (some (chA nx pay cost)) = some (.ptr g.nx 0, g.alloc (.cells false false [LLI nx, LI pay, LI cost])) := fun g _ _ _ => allocB_agg _ rfl
  have hal2 : ∀ g : Hp, allocB g (some (.agg [.nil, .nil, .nil])) = some (.ptr g.nx 0, g.alloc (.cells false false [.nil, .nil, .nil])) := fun g => allocB_agg _ rfl
  have hse : ∀ (h : Hp) nx pay cost, sealA h (chA nx pay cost) = some (chA nx pay cost, h) := fun h _ _ _ => sealA_agg _ (by simp only [AV.pureL, pure_L, Bool.and_true])
  have k17 := fun h h' K => ConW_any (h := h) (h' := h') (K := K) (toB (by decide) (f17_con nx pay cost hk)) (by unfold chV; split <;> rfl) (by unfold chV; split <;> rfl)
  have hk2 := okN.copy nx pay cost
  have hx8 := nxM_len nx
  generalize nxM nx = nx2 at *
  generalize listM pay = pay2 at *
  generalize listM cost = cost2 at *
  obtain ⟨f0, hf0⟩ : ∃ f0, f0 = if nx2 = [] then AV.nil else LLI nx2 := ⟨_, rfl⟩
  have hch : chV nx2 pay2 cost2 = .agg [f0, LI pay2, LI cost2] := by rw [hf0, chV]; split <;> rfl
  have hfc : f0.isCell = true := by rw [hf0]; split <;> rfl
  have hfp : f0.isPure = true := by rw [hf0]; split <;> first | rfl | exact pure_L _
  have hlen : ∀ h lim, lenB (some (.slice 23)) f0 h lim = some (I nx2.length) := fun h lim => by
    rw [hf0]; split
    · rename_i e; rw [e]; rfl
    · simp only [go_sem]
  have hi1 : ∀ h : Hp, importR h (.agg [f0, LI pay2, LI cost2]) = (.agg [f0, LI pay2, LI cost2], h) := fun _ => rfl
  have hst : ∀ (g : Hp) (id : Nat), storeC g id 0 3 (some (.cells false false [.nil, .nil, .nil])) [f0, LI pay2, LI cost2] = some (.skp, g.put id (some (.cells false false [f0, LI pay2, LI cost2]))) := fun g id => by
    have h1 : (LI pay2).isCell = true := rfl
    have h2 : (LI cost2).isCell = true := rfl
    simp [storeC, setL, hfc, h1, h2]
  have hse1 : ∀ h : Hp, sealA h (.agg [f0, LI pay2, LI cost2]) = some (.agg [f0, LI pay2, LI cost2], h) := fun h => sealA_agg _ (by simp only [AV.pureL, hfp, pure_L, Bool.and_true])
  rw [hch] at k17
  obtain ⟨b0, kb, hb0⟩ : ∃ b0, Con Try.prog cfg 30 [.agg [f0, LI pay2, LI cost2]] (.bool b0) ∧ (b0 = true → ¬ (nx2.length : Int) ≤ m) := by
    by_cases e : nx2 = []
    · exact ⟨false, by rw [hf0, if_pos e]; exact f30_nil pay2 cost2, fun h => by cases h⟩
    · refine ⟨chB nx2 pay2 cost2, by rw [hf0, if_neg e]; exact f30_con nx2 pay2 cost2 hk2, fun h => ?_⟩
      rw [h, Bool.true_and, decide_eq_false_iff_not] at c1
      omega
  have k30 := fun h h' K => ConW_num (h := h) (h' := h') (K := K) (toB (by decide) kb) rfl
  have hmb := modI_bounds ((nx2.length : Int) - 1) (n := m) (by omega)
  have k18 := fun h h' K => ConW_num (h := h) (h' := h') (K := K) (toB (by decide) (f18_con ((nx2.length : Int) - 1) m (by omega))) rfl
  obtain ⟨n, hn⟩ : ∃ n : Nat, 1 + modI ((nx2.length : Int) - 1) m = (n : Int) := ⟨(1 + modI ((nx2.length : Int) - 1) m).toNat, by omega⟩
  have hn1 : 1 ≤ n := by omega
  have hnm : n ≤ m := by omega
  suffices hh : ∃ R P C, goodR n R P C n ∧ Con Try.prog cfgB 15 [chA nx pay cost, I m] (ownCh R P C) by
    obtain ⟨R, P, C, hg, hc⟩ := hh
    exact ⟨R, P, C, ⟨hg.chB hn1 (by omega), by rw [hg.1.1]; exact hnm⟩, hc⟩
  suffices hh : ∃ r, (∃ R P C, goodR n R P C n ∧ r = ownCh R P C) ∧ Con Try.prog cfgB 15 [chA nx pay cost, I m] r by
    obtain ⟨r, ⟨R, P, C, hg, rfl⟩, hc⟩ := hh
    exact ⟨R, P, C, hg, hc⟩
  refine Con_introE Try.func15 rfl okB15 (Nat.le_of_ble_eq_true rfl) rfl ?_
  simp only [Try.f15, Option.getD_some, initSt2]
  obtain ⟨NN, hNN⟩ : ∃ NN : List AV, NN = [.nil, .nil, .nil] := ⟨_, rfl⟩
  cases b0 <;> (
  simp (disch := first | (simp only [go_sem, gb0, eq_self]; done) | omega | (simp only [gl1, gl2]; omega)) only [go_sem, ↓reduceIte, Nat.reduceEqDiff, Nat.reduceAdd, Nat.reduceMul, Nat.reduceSub, Int.reduceToNat, Nat.reduceBEq, hal, hal2, hse, k17, hi1, hst, hse1, k30, hlen, hb0, k18, hn]
  refine WP_cut (fun st h => st 4 = .ptr 1 0 ∧ st 7 = .ptr 3 0 ∧ 4 ≤ h.nx ∧ h.bl 1 = some (.cells false false [.nil, .nil, .nil]) ∧ ∃ v w u, h.bl 3 = some (.cells false false [v, w, u]) ∧ Tri h n n v w u) ?_ ?_
  · refine WP_for 8 n (fun i st h => st 4 = .ptr 1 0 ∧ st 5 = .ptr 2 0 ∧ st 6 = I n ∧ st 7 = .ptr 3 0 ∧ 4 ≤ h.nx ∧ h.bl 1 = some (.cells false false [.nil, .nil, .nil]) ∧ h.bl 2 = some (.cells false false [f0, LI pay2, LI cost2]) ∧ ∃ v w u, h.bl 3 = some (.cells false false [v, w, u]) ∧ Tri h n i v w u) (by simp (disch := first | (simp only [go_sem, gb0, eq_self]; done) | omega | (simp only [gl1, gl2]; omega)) only [go_sem, ↓reduceIte, Nat.reduceEqDiff, Nat.reduceAdd, Nat.reduceMul, Nat.reduceSub, Int.reduceToNat, Nat.reduceBEq])
      ⟨by simp (disch := first | (simp only [go_sem, gb0, eq_self]; done) | omega | (simp only [gl1, gl2]; omega)) only [go_sem, ↓reduceIte, Nat.reduceEqDiff, Nat.reduceAdd, Nat.reduceMul, Nat.reduceSub, Int.reduceToNat, Nat.reduceBEq], by simp (disch := first | (simp only [go_sem, gb0, eq_self]; done) | omega | (simp only [gl1, gl2]; omega)) only [go_sem, ↓reduceIte, Nat.reduceEqDiff, Nat.reduceAdd, Nat.reduceMul, Nat.reduceSub, Int.reduceToNat, Nat.reduceBEq], by simp (disch := first | (simp only [go_sem, gb0, eq_self]; done) | omega | (simp only [gl1, gl2]; omega)) only [go_sem, ↓reduceIte, Nat.reduceEqDiff, Nat.reduceAdd, Nat.reduceMul, Nat.reduceSub, Int.reduceToNat, Nat.reduceBEq], by simp (disch := first | (simp only [go_sem, gb0, eq_self]; done) | omega | (simp only [gl1, gl2]; omega)) only [go_sem, ↓reduceIte, Nat.reduceEqDiff, Nat.reduceAdd, Nat.reduceMul, Nat.reduceSub, Int.reduceToNat, Nat.reduceBEq], by simp (disch := first | (simp only [go_sem, gb0, eq_self]; done) | omega | (simp only [gl1, gl2]; omega)) only [go_sem, ↓reduceIte, Nat.reduceEqDiff, Nat.reduceAdd, Nat.reduceMul, Nat.reduceSub, Int.reduceToNat, Nat.reduceBEq]; decide, by simp (disch := first | (simp only [go_sem, gb0, eq_self]; done) | omega | (simp only [gl1, gl2]; omega)) only [go_sem, ↓reduceIte, Nat.reduceEqDiff, Nat.reduceAdd, Nat.reduceMul, Nat.reduceSub, Int.reduceToNat, Nat.reduceBEq], by simp (disch := first | (simp only [go_sem, gb0, eq_self]; done) | omega | (simp only [gl1, gl2]; omega)) only [go_sem, ↓reduceIte, Nat.reduceEqDiff, Nat.reduceAdd, Nat.reduceMul, Nat.reduceSub, Int.reduceToNat, Nat.reduceBEq], .nil, .nil, .nil, by simp (disch := first | (simp only [go_sem, gb0, eq_self]; done) | omega | (simp only [gl1, gl2]; omega)) only [go_sem, ↓reduceIte, Nat.reduceEqDiff, Nat.reduceAdd, Nat.reduceMul, Nat.reduceSub, Int.reduceToNat, Nat.reduceBEq], [], [], [], .inl ⟨rfl, rfl⟩, .inl ⟨rfl, rfl⟩, .inl ⟨rfl, rfl⟩, Dis.nil_l _, Dis.nil_l _, Dis.nil_l _, ⟨rfl, rfl, rfl⟩, fun k hk => by omega⟩ ?_
    rintro i st h hi s8 ⟨s4, s5, s6, s7, hnx, b1, b2, v, w, u, b3, ht⟩
    by_cases hlt : i < n
    case neg =>
      obtain rfl : i = n := by omega
      simp (disch := first | (simp only [go_sem, gb0, eq_self]; done) | omega | (simp only [gl1, gl2]; omega)) only [go_sem, ↓reduceIte, Nat.reduceEqDiff, Nat.reduceAdd, Nat.reduceMul, Nat.reduceSub, Int.reduceToNat, Nat.reduceBEq, s4, s5, s6, s7, s8, hlt]
      exact ⟨hnx, b1, v, w, u, b3, ht⟩
    obtain ⟨R, P, C, ov, ow, ou, d1, d2, d3, hg⟩ := ht
    have hmk := fun g : Hp => makeB_int (P := Try.prog) (h := g) 3 (n : Int) isz3 ibytes3 izero3 (by omega) (by omega)
    simp only [Int.toNat_natCast, vecA_zero] at hmk
    obtain ⟨J, hJ⟩ : ∃ J, J = h.nx := ⟨_, rfl⟩
    simp (disch := first | (simp only [go_sem, gb0, eq_self]; done) | omega | (simp only [gl1, gl2]; omega)) only [go_sem, ↓reduceIte, Nat.reduceEqDiff, Nat.reduceAdd, Nat.reduceMul, Nat.reduceSub, Int.reduceToNat, Nat.reduceBEq, s4, s5, s6, s7, s8, hlt, hmk, ← hJ]
    refine WP_cut (fun st g => st 4 = .ptr 1 0 ∧ st 5 = .ptr 2 0 ∧ st 6 = I n ∧ st 7 = .ptr 3 0 ∧ st 8 = I i ∧ st 9 = .sl J 0 n 1 ∧ g.nx = J + 1 ∧ (∀ id, id < J → g.bl id = h.bl id) ∧ ∃ f, g.bl J = some (.cells false true (vecA f n)) ∧ rowB ((List.range n).map f) = true) ?_ ?_
    · refine WP_for 11 n (fun j st g => st 4 = .ptr 1 0 ∧ st 5 = .ptr 2 0 ∧ st 6 = I n ∧ st 7 = .ptr 3 0 ∧ st 8 = I i ∧ st 9 = .sl J 0 n 1 ∧ g.nx = J + 1 ∧ (∀ id, id < J → g.bl id = h.bl id) ∧ ∃ f left, st 10 = I left ∧ g.bl J = some (.cells false true (vecA f n)) ∧ rowI f left j) (by simp (disch := first | (simp only [go_sem, gb0, eq_self]; done) | omega | (simp only [gl1, gl2]; omega)) only [go_sem, ↓reduceIte, Nat.reduceEqDiff, Nat.reduceAdd, Nat.reduceMul, Nat.reduceSub, Int.reduceToNat, Nat.reduceBEq])
        ⟨by simp (disch := first | (simp only [go_sem, gb0, eq_self]; done) | omega | (simp only [gl1, gl2]; omega)) only [go_sem, ↓reduceIte, Nat.reduceEqDiff, Nat.reduceAdd, Nat.reduceMul, Nat.reduceSub, Int.reduceToNat, Nat.reduceBEq, s4], by simp (disch := first | (simp only [go_sem, gb0, eq_self]; done) | omega | (simp only [gl1, gl2]; omega)) only [go_sem, ↓reduceIte, Nat.reduceEqDiff, Nat.reduceAdd, Nat.reduceMul, Nat.reduceSub, Int.reduceToNat, Nat.reduceBEq, s5], by simp (disch := first | (simp only [go_sem, gb0, eq_self]; done) | omega | (simp only [gl1, gl2]; omega)) only [go_sem, ↓reduceIte, Nat.reduceEqDiff, Nat.reduceAdd, Nat.reduceMul, Nat.reduceSub, Int.reduceToNat, Nat.reduceBEq, s6], by simp (disch := first | (simp only [go_sem, gb0, eq_self]; done) | omega | (simp only [gl1, gl2]; omega)) only [go_sem, ↓reduceIte, Nat.reduceEqDiff, Nat.reduceAdd, Nat.reduceMul, Nat.reduceSub, Int.reduceToNat, Nat.reduceBEq, s7], by simp (disch := first | (simp only [go_sem, gb0, eq_self]; done) | omega | (simp only [gl1, gl2]; omega)) only [go_sem, ↓reduceIte, Nat.reduceEqDiff, Nat.reduceAdd, Nat.reduceMul, Nat.reduceSub, Int.reduceToNat, Nat.reduceBEq, s8], by simp (disch := first | (simp only [go_sem, gb0, eq_self]; done) | omega | (simp only [gl1, gl2]; omega)) only [go_sem, ↓reduceIte, Nat.reduceEqDiff, Nat.reduceAdd, Nat.reduceMul, Nat.reduceSub, Int.reduceToNat, Nat.reduceBEq], by simp (disch := first | (simp only [go_sem, gb0, eq_self]; done) | omega | (simp only [gl1, gl2]; omega)) only [go_sem, ↓reduceIte, Nat.reduceEqDiff, Nat.reduceAdd, Nat.reduceMul, Nat.reduceSub, Int.reduceToNat, Nat.reduceBEq]; omega, fun id hid => by rw [alloc_bl, if_neg (by omega)], fun _ => 0, 4, by simp (disch := first | (simp only [go_sem, gb0, eq_self]; done) | omega | (simp only [gl1, gl2]; omega)) only [go_sem, ↓reduceIte, Nat.reduceEqDiff, Nat.reduceAdd, Nat.reduceMul, Nat.reduceSub, Int.reduceToNat, Nat.reduceBEq], by simp (disch := first | (simp only [go_sem, gb0, eq_self]; done) | omega | (simp only [gl1, gl2]; omega)) only [go_sem, ↓reduceIte, Nat.reduceEqDiff, Nat.reduceAdd, Nat.reduceMul, Nat.reduceSub, Int.reduceToNat, Nat.reduceBEq, hJ], ⟨by decide, by decide, rfl, fun _ => ⟨Int.le_refl 0, show (0 : Int) ≤ 4 by decide⟩, fun _ _ => rfl⟩⟩ ?_
      rintro j st g hj s11 ⟨s4, s5, s6, s7, s8, s9, gn, go, f, left, s10, gJ, hr⟩
      have fin : ∃ f, g.bl J = some (.cells false true (vecA f n)) ∧ rowB ((List.range n).map f) = true := ⟨f, gJ, rowB_of (fun k _ => hr.2.2.2.1 k) (hr.sum hj)⟩
      by_cases hjn : j < n
      case neg =>
        simp (disch := first | (simp only [go_sem, gb0, eq_self]; done) | omega | (simp only [gl1, gl2]; omega)) only [go_sem, ↓reduceIte, Nat.reduceEqDiff, Nat.reduceAdd, Nat.reduceMul, Nat.reduceSub, Int.reduceToNat, Nat.reduceBEq, s4, s5, s6, s7, s8, s9, s10, s11, hjn]
        exact ⟨gn, go, fin⟩
      have g2 : g.bl 2 = some (.cells false false [f0, LI pay2, LI cost2]) := (go 2 (by omega)).trans b2
      by_cases hin : i < nx2.length
      case neg =>
        have hin' : ¬ (i : Int) < nx2.length := by omega
        simp (disch := first | (simp only [go_sem, gb0, eq_self]; done) | omega | (simp only [gl1, gl2]; omega)) only [go_sem, ↓reduceIte, Nat.reduceEqDiff, Nat.reduceAdd, Nat.reduceMul, Nat.reduceSub, Int.reduceToNat, Nat.reduceBEq, s4, s5, s6, s7, s8, s9, s10, s11, hjn, g2, hlen, hin']
        exact ⟨gn, go, fin⟩
      have hin' : (i : Int) < nx2.length := by omega
      have he : f0 = LLI nx2 := by rw [hf0, if_neg (fun e => by rw [e] at hin; cases hin)]
      rw [he] at g2
      have kat := fun h h' K => ConW_num (h := h) (h' := h') (K := K) (toB (by decide) (f36_con (nth nx2 i) (hk2.row _ (nth_mem hin)) j)) rfl
      have k5 := fun h h' K => ConW_num (h := h) (h' := h') (K := K) (toB (by decide) (f18_con (nth (nth nx2 i) j) 5 (by decide))) rfl
      have hb5 := modI_bounds (nth (nth nx2 i) j) (n := 5) (by decide)
      have hr2 := hr.step (x := modI (nth (nth nx2 i) j) 5) (by omega)
      have hjn' : (j : Int) < n := by omega
      have nJ2 : ¬ 2 = J := by omega
      obtain ⟨x, hx⟩ : ∃ x, x = min left (modI (nth (nth nx2 i) j) 5) := ⟨_, rfl⟩
      rw [← hx] at hr2
      have hl0 := hr.1
      have hl4 := hr.2.1
      have hx0 : 0 ≤ x ∧ x ≤ 4 := by omega
      have hgs : (vecA (setV f j x) n)[j]? = some (I x) := by rw [vecA_get _ _ _ hjn, setV, if_pos rfl]
      simp (disch := first | (simp only [go_sem, gb0, eq_self]; done) | omega | (simp only [gl1, gl2]; omega)) only [go_sem, ↓reduceIte, Nat.reduceEqDiff, Nat.reduceAdd, Nat.reduceMul, Nat.reduceSub, Int.reduceToNat, Nat.reduceBEq, s4, s5, s6, s7, s8, s9, s10, s11, hjn, hjn', g2, hin, hin', kat, k5, ← hx, gJ, hgs]
      rw [ForK_normal]
      exact ⟨hjn, by simp (disch := first | (simp only [go_sem, gb0, eq_self]; done) | omega | (simp only [gl1, gl2]; omega)) only [go_sem, ↓reduceIte, Nat.reduceEqDiff, Nat.reduceAdd, Nat.reduceMul, Nat.reduceSub, Int.reduceToNat, Nat.reduceBEq, s11], by simp (disch := first | (simp only [go_sem, gb0, eq_self]; done) | omega | (simp only [gl1, gl2]; omega)) only [go_sem, ↓reduceIte, Nat.reduceEqDiff, Nat.reduceAdd, Nat.reduceMul, Nat.reduceSub, Int.reduceToNat, Nat.reduceBEq, s4], by simp (disch := first | (simp only [go_sem, gb0, eq_self]; done) | omega | (simp only [gl1, gl2]; omega)) only [go_sem, ↓reduceIte, Nat.reduceEqDiff, Nat.reduceAdd, Nat.reduceMul, Nat.reduceSub, Int.reduceToNat, Nat.reduceBEq, s5], by simp (disch := first | (simp only [go_sem, gb0, eq_self]; done) | omega | (simp only [gl1, gl2]; omega)) only [go_sem, ↓reduceIte, Nat.reduceEqDiff, Nat.reduceAdd, Nat.reduceMul, Nat.reduceSub, Int.reduceToNat, Nat.reduceBEq, s6], by simp (disch := first | (simp only [go_sem, gb0, eq_self]; done) | omega | (simp only [gl1, gl2]; omega)) only [go_sem, ↓reduceIte, Nat.reduceEqDiff, Nat.reduceAdd, Nat.reduceMul, Nat.reduceSub, Int.reduceToNat, Nat.reduceBEq, s7], by simp (disch := first | (simp only [go_sem, gb0, eq_self]; done) | omega | (simp only [gl1, gl2]; omega)) only [go_sem, ↓reduceIte, Nat.reduceEqDiff, Nat.reduceAdd, Nat.reduceMul, Nat.reduceSub, Int.reduceToNat, Nat.reduceBEq, s8], by simp (disch := first | (simp only [go_sem, gb0, eq_self]; done) | omega | (simp only [gl1, gl2]; omega)) only [go_sem, ↓reduceIte, Nat.reduceEqDiff, Nat.reduceAdd, Nat.reduceMul, Nat.reduceSub, Int.reduceToNat, Nat.reduceBEq, s9], by simp (disch := first | (simp only [go_sem, gb0, eq_self]; done) | omega | (simp only [gl1, gl2]; omega)) only [go_sem, ↓reduceIte, Nat.reduceEqDiff, Nat.reduceAdd, Nat.reduceMul, Nat.reduceSub, Int.reduceToNat, Nat.reduceBEq, gn], fun id hid => by simp (disch := first | (simp only [go_sem, gb0, eq_self]; done) | omega | (simp only [gl1, gl2]; omega)) only [go_sem, ↓reduceIte, Nat.reduceEqDiff, Nat.reduceAdd, Nat.reduceMul, Nat.reduceSub, Int.reduceToNat, Nat.reduceBEq]; rw [if_neg (by omega)]; exact go id hid, setV f j x, left - x, by simp (disch := first | (simp only [go_sem, gb0, eq_self]; done) | omega | (simp only [gl1, gl2]; omega)) only [go_sem, ↓reduceIte, Nat.reduceEqDiff, Nat.reduceAdd, Nat.reduceMul, Nat.reduceSub, Int.reduceToNat, Nat.reduceBEq], by simp (disch := first | (simp only [go_sem, gb0, eq_self]; done) | omega | (simp only [gl1, gl2]; omega)) only [go_sem, ↓reduceIte, Nat.reduceEqDiff, Nat.reduceAdd, Nat.reduceMul, Nat.reduceSub, Int.reduceToNat, Nat.reduceBEq], hr2⟩
    · rintro st g ⟨s4, s5, s6, s7, s8, s9, gn, go, f, gJ, hrow⟩
      have g1 := (go 1 (by omega)).trans b1
      have g2 := (go 2 (by omega)).trans b2
      have g3 := (go 3 (by omega)).trans b3
      have gov := ov.mono (h' := g) (by omega) fun id hid => go id (by omega)
      have gow := ow.mono (h' := g) (by omega) fun id hid => go id (by omega)
      have gou := ou.mono (h' := g) (by omega) fun id hid => go id (by omega)
      obtain ⟨r, hrr⟩ : ∃ r, r = (List.range n).map f := ⟨_, rfl⟩
      have hrl : r.length = n := by rw [hrr]; simp
      have hse0 := seal_vec gJ
      rw [← hrr] at hse0 hrow
      obtain ⟨G, hG⟩ : ∃ G, G = g.put J (some (.cells true true (vecA f n))) := ⟨_, rfl⟩
      rw [← hG] at hse0
      have Gn : G.nx = J + 1 := by rw [hG]; exact gn
      have Go' : ∀ id, id < J → G.bl id = g.bl id := fun id hid => by rw [hG, put_bl, if_neg (by omega)]
      have Gh : ∀ id, id < h.nx → G.bl id = h.bl id := fun id hid => (Go' id (by omega)).trans (go id (by omega))
      have Gov := ov.mono (h' := G) (by omega) Gh
      have Gow := ow.mono (h' := G) (by omega) Gh
      have Gou := ou.mono (h' := G) (by omega) Gh
      have G1 := (Gh 1 (by omega)).trans b1
      have G2 := (Gh 2 (by omega)).trans b2
      have G3 := (Gh 3 (by omega)).trans b3
      have lR := hg.1.1
      have lP := hg.1.2.1
      have lC := hg.1.2.2
      have cw := own_cell ow
      have cu := own_cell ou
      have kp := fun h h' K => ConW_num (h := h) (h' := h') (K := K) (toB (by decide) (f36_con pay2 hk2.p i)) rfl
      have kc := fun h h' K => ConW_num (h := h) (h' := h') (K := K) (toB (by decide) (f36_con cost2 hk2.c i)) rfl
      have k1001 := fun h h' K => ConW_num (h := h) (h' := h') (K := K) (toB (by decide) (f18_con (nth pay2 i) 1001 (by decide))) rfl
      have k101 := fun h h' K => ConW_num (h := h) (h' := h') (K := K) (toB (by decide) (f18_con (nth cost2 i) 101 (by decide))) rfl
      have hpb := modI_bounds (nth pay2 i) (n := 1001) (by decide)
      have hcb := modI_bounds (nth cost2 i) (n := 101) (by decide)
      obtain ⟨p, hp⟩ : ∃ p, p = modI (nth pay2 i) 1001 := ⟨_, rfl⟩
      obtain ⟨c, hc⟩ : ∃ c, c = modI (nth cost2 i) 101 := ⟨_, rfl⟩
      rw [← hp] at k1001 hpb
      rw [← hc] at k101 hcb
      have hbs1 := bsB_one (P := Try.prog) 23 (.sl J 0 n 1) (LI r) .nil G isz23 izero23 rfl rfl rfl hse0 rfl rfl (pure_L _)
      have hbs2 := fun h => bsB_one (P := Try.prog) 3 (I p) (I p) (I 0) h isz3 izero3 rfl rfl rfl rfl rfl rfl rfl
      have hbs3 := fun h => bsB_one (P := Try.prog) 3 (I c) (I c) (I 0) h isz3 izero3 rfl rfl rfl rfl rfl rfl rfl
      -- the row goes in
      have happ1 := app_one (P := Try.prog) Gov 23 24 .nil r isz23 ibytes23 izero23 rfl (by omega) (by omega)
      obtain ⟨An, Ab, Ao, Ak⟩ := app_step Gov (R ++ [r])
      have hV1 : appV G (R ++ [r]).length 1 = .sl G.nx 0 (R ++ [r]).length 1 := rfl
      obtain ⟨Aow, e1w⟩ := Ak Gow d1
      obtain ⟨Aou, e1u⟩ := Ak Gou d2
      rw [hV1] at happ1 Ao e1w e1u
      have A1 := Ab 1 _ _ G1 (by omega)
      have A2 := Ab 2 _ _ G2 (by omega)
      have A3 := Ab 3 _ _ G3 (by omega)
      clear Ak Ab
      generalize appH G v ((R ++ [r]).flatMap (e1 LI)) = A at *
      obtain ⟨V1, hV1e⟩ : ∃ V1, V1 = AV.sl G.nx 0 (R ++ [r]).length 1 := ⟨_, rfl⟩
      rw [← hV1e] at happ1 Ao e1w e1u
      have lV1 : V1.cells = [V1] := by rw [hV1e]; rfl
      have cV1 := own_cell Ao
      have hst1 : storeC A 3 0 1 (some (.cells false false [v, w, u])) [V1] = some (.skp, A.put 3 (some (.cells false false [V1, w, u]))) := by simp [storeC, setL, cV1, cw, cu]
      obtain ⟨A', hA'⟩ : ∃ A', A' = A.put 3 (some (.cells false false [V1, w, u])) := ⟨_, rfl⟩
      have A'o := own_put Ao A3 (some (.cells false false [V1, w, u]))
      have A'ow := own_put Aow A3 (some (.cells false false [V1, w, u]))
      have A'ou := own_put Aou A3 (some (.cells false false [V1, w, u]))
      rw [← hA'] at A'o A'ow A'ou hst1
      have A'n : A'.nx = J + 2 := by rw [hA']; show A.nx = _; omega
      have A'1 : A'.bl 1 = some (.cells false false [.nil, .nil, .nil]) := by rw [hA', put_bl, if_neg (by decide)]; exact A1
      have A'2 : A'.bl 2 = some (.cells false false [f0, LI pay2, LI cost2]) := by rw [hA', put_bl, if_neg (by decide)]; exact A2
      have A'3 : A'.bl 3 = some (.cells false false [V1, w, u]) := by rw [hA', put_bl, if_pos rfl]
      -- the pay
      have happ2 := app_one (P := Try.prog) A'ow 3 8 (I 0) p isz3 ibytes3 izero3 rfl (by omega) (by omega)
      obtain ⟨Bn, Bb, Bo, Bk⟩ := app_step A'ow (P ++ [p])
      have hV2 : appV A' (P ++ [p]).length 1 = .sl A'.nx 0 (P ++ [p]).length 1 := rfl
      obtain ⟨Bov, e2v⟩ := Bk A'o e1w.symm
      obtain ⟨Bou, e2u⟩ := Bk A'ou d3
      rw [hV2] at happ2 Bo e2v e2u
      have B1 := Bb 1 _ _ A'1 (by omega)
      have B2 := Bb 2 _ _ A'2 (by omega)
      have B3 := Bb 3 _ _ A'3 (by omega)
      clear Bk Bb
      generalize appH A' w ((P ++ [p]).flatMap (e1 I)) = B at *
      obtain ⟨V2, hV2e⟩ : ∃ V2, V2 = AV.sl A'.nx 0 (P ++ [p]).length 1 := ⟨_, rfl⟩
      rw [← hV2e] at happ2 Bo e2v e2u
      have lV2 : V2.cells = [V2] := by rw [hV2e]; rfl
      have cV2 := own_cell Bo
      have hst2 : storeC B 3 1 1 (some (.cells false false [V1, w, u])) [V2] = some (.skp, B.put 3 (some (.cells false false [V1, V2, u]))) := by simp [storeC, setL, cV1, cV2, cu]
      obtain ⟨B', hB'⟩ : ∃ B', B' = B.put 3 (some (.cells false false [V1, V2, u])) := ⟨_, rfl⟩
      have B'o := own_put Bo B3 (some (.cells false false [V1, V2, u]))
      have B'ov := own_put Bov B3 (some (.cells false false [V1, V2, u]))
      have B'ou := own_put Bou B3 (some (.cells false false [V1, V2, u]))
      rw [← hB'] at B'o B'ov B'ou hst2
      have B'n : B'.nx = J + 3 := by rw [hB']; show B.nx = _; omega
      have B'1 : B'.bl 1 = some (.cells false false [.nil, .nil, .nil]) := by rw [hB', put_bl, if_neg (by decide)]; exact B1
      have B'2 : B'.bl 2 = some (.cells false false [f0, LI pay2, LI cost2]) := by rw [hB', put_bl, if_neg (by decide)]; exact B2
      have B'3 : B'.bl 3 = some (.cells false false [V1, V2, u]) := by rw [hB', put_bl, if_pos rfl]
      -- the cost
      have happ3 := app_one (P := Try.prog) B'ou 3 8 (I 0) c isz3 ibytes3 izero3 rfl (by omega) (by omega)
      obtain ⟨Dn, Db, Do, Dk⟩ := app_step B'ou (C ++ [c])
      have hV3 : appV B' (C ++ [c]).length 1 = .sl B'.nx 0 (C ++ [c]).length 1 := rfl
      obtain ⟨Dov, e3v⟩ := Dk B'ov e1u.symm
      obtain ⟨Dow, e3w⟩ := Dk B'o e2u.symm
      rw [hV3] at happ3 Do e3v e3w
      have D1 := Db 1 _ _ B'1 (by omega)
      have D2 := Db 2 _ _ B'2 (by omega)
      have D3 := Db 3 _ _ B'3 (by omega)
      clear Dk Db
      generalize appH B' u ((C ++ [c]).flatMap (e1 I)) = D at *
      obtain ⟨V3, hV3e⟩ : ∃ V3, V3 = AV.sl B'.nx 0 (C ++ [c]).length 1 := ⟨_, rfl⟩
      rw [← hV3e] at happ3 Do e3v e3w
      have lV3 : V3.cells = [V3] := by rw [hV3e]; rfl
      have cV3 := own_cell Do
      have hst3 : storeC D 3 2 1 (some (.cells false false [V1, V2, u])) [V3] = some (.skp, D.put 3 (some (.cells false false [V1, V2, V3]))) := by simp [storeC, setL, cV1, cV2, cV3]
      obtain ⟨D', hD'⟩ : ∃ D', D' = D.put 3 (some (.cells false false [V1, V2, V3])) := ⟨_, rfl⟩
      have D'o := own_put Do D3 (some (.cells false false [V1, V2, V3]))
      have D'ov := own_put Dov D3 (some (.cells false false [V1, V2, V3]))
      have D'ow := own_put Dow D3 (some (.cells false false [V1, V2, V3]))
      rw [← hD'] at D'o D'ov D'ow hst3
      have D'n : D'.nx = J + 4 := by rw [hD']; show D.nx = _; omega
      have D'1 : D'.bl 1 = some (.cells false false [.nil, .nil, .nil]) := by rw [hD', put_bl, if_neg (by decide)]; exact D1
      have D'2 : D'.bl 2 = some (.cells false false [f0, LI pay2, LI cost2]) := by rw [hD', put_bl, if_neg (by decide)]; exact D2
      have D'3 : D'.bl 3 = some (.cells false false [V1, V2, V3]) := by rw [hD', put_bl, if_pos rfl]
      have hg2 := hg.snoc hrl (p := p) (c := c) (by rw [inB, decide_eq_true (by omega), decide_eq_true (by omega)]; rfl) (by rw [inB, decide_eq_true (by omega), decide_eq_true (by omega)]; rfl) hrow
      simp (maxSteps := 3000000) (disch := first | (simp only [go_sem, gb0, eq_self]; done) | omega | (simp only [gl1, gl2]; omega)) only [go_sem, ↓reduceIte, Nat.reduceEqDiff, Nat.reduceAdd, Nat.reduceMul, Nat.reduceSub, Int.reduceToNat, Nat.reduceBEq, s4, s5, s6, s7, s8, s9, g3, hbs1, happ1, A3, lV1, hst1, A'2, A'3, kp, k1001, hbs2, happ2, B3, lV2, hst2, B'2, B'3, kc, k101, hbs3, happ3, D3, lV3, hst3, List.filterMap_cons, List.filterMap_nil, List.contains_nil, List.contains_cons, Bool.not_false, Bool.not_true, Bool.or_true, Bool.true_or, List.nil_append, List.cons_append, Nat.reduceLT, decide_true, decide_false, List.drop_succ_cons]
      rw [ForK_normal]
      exact ⟨hlt, by simp (disch := first | (simp only [go_sem, gb0, eq_self]; done) | omega | (simp only [gl1, gl2]; omega)) only [go_sem, ↓reduceIte, Nat.reduceEqDiff, Nat.reduceAdd, Nat.reduceMul, Nat.reduceSub, Int.reduceToNat, Nat.reduceBEq, s8], by simp (disch := first | (simp only [go_sem, gb0, eq_self]; done) | omega | (simp only [gl1, gl2]; omega)) only [go_sem, ↓reduceIte, Nat.reduceEqDiff, Nat.reduceAdd, Nat.reduceMul, Nat.reduceSub, Int.reduceToNat, Nat.reduceBEq, s4], by simp (disch := first | (simp only [go_sem, gb0, eq_self]; done) | omega | (simp only [gl1, gl2]; omega)) only [go_sem, ↓reduceIte, Nat.reduceEqDiff, Nat.reduceAdd, Nat.reduceMul, Nat.reduceSub, Int.reduceToNat, Nat.reduceBEq, s5], by simp (disch := first | (simp only [go_sem, gb0, eq_self]; done) | omega | (simp only [gl1, gl2]; omega)) only [go_sem, ↓reduceIte, Nat.reduceEqDiff, Nat.reduceAdd, Nat.reduceMul, Nat.reduceSub, Int.reduceToNat, Nat.reduceBEq, s6], by simp (disch := first | (simp only [go_sem, gb0, eq_self]; done) | omega | (simp only [gl1, gl2]; omega)) only [go_sem, ↓reduceIte, Nat.reduceEqDiff, Nat.reduceAdd, Nat.reduceMul, Nat.reduceSub, Int.reduceToNat, Nat.reduceBEq, s7], by omega, D'1, D'2, V1, V2, V3, D'3, R ++ [r], P ++ [p], C ++ [c], D'ov, D'ow, D'o, e2v.symm, e3v.symm, e3w.symm, hg2⟩
  · rintro st h ⟨s4, s7, hnx, b1, v, w, u, b3, R, P, C, ov, ow, ou, d1, d2, d3, hg⟩
    have cv := own_cell ov
    have cw := own_cell ow
    have cu := own_cell ou
    have hs3 : storeC h 1 0 3 (some (.cells false false [.nil, .nil, .nil])) [v, w, u] = some (.skp, h.put 1 (some (.cells false false [v, w, u]))) := by simp [storeC, setL, cv, cw, cu]
    have hR0 : 0 < R.length := by rw [hg.1.1]; omega
    have hP0 : 0 < P.length := by rw [hg.1.2.1]; omega
    have hC0 : 0 < C.length := by rw [hg.1.2.2]; omega
    obtain ⟨ia, ea, _, ha⟩ := (own_put ov b1 (some (.cells false false [v, w, u]))).sl hR0
    obtain ⟨ib, eb, _, hb⟩ := (own_put ow b1 (some (.cells false false [v, w, u]))).sl hP0
    obtain ⟨ic, ec, _, hc⟩ := (own_put ou b1 (some (.cells false false [v, w, u]))).sl hC0
    have hx := export_ownCh 25 ha hb hc (fun e => d1 _ _ _ _ _ _ _ _ ea eb e) (fun e => d2 _ _ _ _ _ _ _ _ ea ec e) (fun e => d3 _ _ _ _ _ _ _ _ eb ec e)
    rw [← ea, ← eb, ← ec] at hx
    simp (disch := first | (simp only [go_sem, gb0, eq_self]; done) | omega | (simp only [gl1, gl2]; omega)) only [go_sem, ↓reduceIte, Nat.reduceEqDiff, Nat.reduceAdd, Nat.reduceMul, Nat.reduceSub, Int.reduceToNat, Nat.reduceBEq, s4, s7, b1, b3, hs3]
    refine ⟨ownCh R P C, ⟨R, P, C, hg, rfl⟩, ?_⟩
    simp (disch := first | (simp only [go_sem, gb0, eq_self]; done) | omega | (simp only [gl1, gl2]; omega)) only [go_sem, ↓reduceIte, Nat.reduceEqDiff, Nat.reduceAdd, Nat.reduceMul, Nat.reduceSub, Int.reduceToNat, Nat.reduceBEq, s4, s7, b1, b3, hs3]
    exact hx)

/-- When the copy itself is small and true, it is handed over. -/
theorem f15_A (nx : List (List Int)) (pay cost : List Int) (hk : okN nx pay cost) (m : Nat) (hm : 1 ≤ m ∧ m ≤ 5) (c1 : chB (nxM nx) (listM pay) (listM cost) = true ∧ (nxM nx).length ≤ m) : Con Try.prog cfgA 15 [chA nx pay cost, I m] (ownCh (nxM nx) (listM pay) (listM cost)) := by
  have ml : maxLen = 9223372036854775807 := by decide
  have hal : ∀ (g : Hp) nx pay cost, allocB g (some (chA nx pay cost)) = some (.ptr g.nx 0, g.alloc (.cells false false [LLI nx, LI pay, LI cost])) := fun g _ _ _ => allocB_agg _ rfl
  have hal2 : ∀ g : Hp, allocB g (some (.agg [.nil, .nil, .nil])) = some (.ptr g.nx 0, g.alloc (.cells false false [.nil, .nil, .nil])) := fun g => allocB_agg _ rfl
  have hse : ∀ (h : Hp) nx pay cost, sealA h (chA nx pay cost) = some (chA nx pay cost, h) := fun h _ _ _ => sealA_agg _ (by simp only [AV.pureL, pure_L, Bool.and_true])
  have h0 : 0 < nx.length := by
    have := (okC.of c1.1).n1
    have : (nxM nx).length ≤ nx.length := by simp [nxM]; omega
    omega
  have c17 := f17_A nx pay cost hk h0
  have hk2 := okN.copy nx pay cost
  have hx8 := nxM_len nx
  generalize nxM nx = nx2 at *
  generalize listM pay = pay2 at *
  generalize listM cost = cost2 at *
  have k17 := fun h h' K => ConW_any (h := h) (h' := h') (K := K) c17 rfl (ownCh_free _ _ (by have := (okC.of c1.1).n1; omega))
  have hi := fun h => importR_ownCh (h := h) nx2 pay2 cost2
  have k30 := fun h h' K => ConW_num (h := h) (h' := h') (K := K) (liftA (by decide) (liftX (by decide) (f30_con nx2 pay2 cost2 hk2))) rfl
  rw [c1.1] at k30
  have hst : ∀ (g : Hp) (id a b c : Nat), storeC g id 0 3 (some (.cells false false [.nil, .nil, .nil])) [.sl a 0 nx2.length 1, .sl b 0 pay2.length 1, .sl c 0 cost2.length 1] = some (.skp, g.put id (some (.cells false false [.sl a 0 nx2.length 1, .sl b 0 pay2.length 1, .sl c 0 cost2.length 1]))) := fun g id a b c => by simp [storeC, setL, AV.isCell]
  have c2 : (nx2.length : Int) ≤ m := by omega
  refine Con_intro Try.func15 rfl okA15 (Nat.le_of_ble_eq_true rfl) rfl ?_
  simp only [Try.f15, Option.getD_some, initSt2]
  simp (disch := first | (simp only [go_sem, gb0, eq_self]; done) | omega | (simp only [gl1, gl2]; omega)) only [go_sem, ↓reduceIte, Nat.reduceEqDiff, Nat.reduceAdd, Nat.reduceMul, Nat.reduceSub, Int.reduceToNat, Nat.reduceBEq, hal, hal2, hse, k17, hi, hst, ↓stopY 2 false]
  refine WPy_go (fun st h => st 1 = I m ∧ st 4 = .ptr 1 0 ∧ st 5 = .ptr 5 0 ∧ h.nx = 6 ∧ h.bl 1 = some (.cells false false [.nil, .nil, .nil]) ∧ h.bl 2 = some (.cells false true (nx2.flatMap (e1 LI))) ∧ h.bl 3 = some (.cells false true (pay2.flatMap (e1 I))) ∧ h.bl 4 = some (.cells false true (cost2.flatMap (e1 I))) ∧ h.bl 5 = some (.cells false false [.sl 2 0 nx2.length 1, .sl 3 0 pay2.length 1, .sl 4 0 cost2.length 1])) (by simp (disch := first | (simp only [go_sem, gb0, eq_self]; done) | omega | (simp only [gl1, gl2]; omega)) only [go_sem, ↓reduceIte, Nat.reduceEqDiff, Nat.reduceAdd, Nat.reduceMul, Nat.reduceSub, Int.reduceToNat, Nat.reduceBEq]) ?_
  rintro st h ⟨s1, s4, s5, hnx, b1, b2, b3, b4, b5⟩
  have hse3 := seal_own3 b2 b3 b4 (by decide) (by decide) (by decide)
  have hx := export_ownCh (h := h.put 1 (some (.cells false false [.sl 2 0 nx2.length 1, .sl 3 0 pay2.length 1, .sl 4 0 cost2.length 1]))) 25 (a := 2) (b := 3) (c := 4) (R := nx2) (P := pay2) (C := cost2) (by simpa [Hp.put] using b2) (by simpa [Hp.put] using b3) (by simpa [Hp.put] using b4) (by decide) (by decide) (by decide)
  simp (disch := first | (simp only [go_sem, gb0, eq_self]; done) | omega | (simp only [gl1, gl2]; omega)) only [go_sem, ↓reduceIte, Nat.reduceEqDiff, Nat.reduceAdd, Nat.reduceMul, Nat.reduceSub, Int.reduceToNat, Nat.reduceBEq, s1, s4, s5, b1, b5, hse3, k30, c2, hst, hx]
end Go.Proofs.Ytgamcclfdkpcgaa

set_option linter.unusedVariables false
set_option linter.unusedSimpArgs false
set_option maxRecDepth 10000
namespace Go.Proofs.Ytgamcclfdkpcgaa
open Go Go.Am

theorem Bst.congr {n : Nat} {w w' : Mat} {p c p' c' V : Nat → Int} {D : Int} (hw : ∀ i j, i < n → j < n → w' i j = w i j) (hp : ∀ i, i < n → p' i = p i) (hc : ∀ i, i < n → c' i = c i) (b : Bst n w p c V D) : Bst n w' p' c' V D := by
  have hs : ∀ i, i < n → sumN (fun j => w' i j * V j) n = sumN (fun j => w i j * V j) n := fun i hi => sumN_congr fun j hj => by rw [hw i j hi hj]
  have hs1 : ∀ i, i < n → sumN (w' i) n = sumN (w i) n := fun i hi => sumN_congr fun j hj => hw i j hi hj
  refine ⟨b.pos, fun i hi => ?_, ?_⟩
  · rw [hp i hi, hc i hi, hs i hi]; exact b.sup i hi
  · obtain ⟨r, hn, hv⟩ := b.rule
    refine ⟨r, fun S hS => hn S fun i hi h => ?_, hv.pos, fun i hi hr => by rw [hp i hi]; exact hv.stop i hi hr, fun i hi hr => by rw [hs i hi, hc i hi]; exact hv.go i hi hr⟩
    obtain ⟨a1, a2, a3⟩ := hS i hi h
    exact ⟨a1, by rw [← hs1 i hi]; exact a2, fun j hj hw0 => a3 j hj (by rw [hw i j hi hj]; exact hw0)⟩
theorem chB_of_parts {nx : List (List Int)} {pay cost pay' cost' : List Int} (h : chB nx pay cost = true) (lp : pay'.length = nx.length) (lc : cost'.length = nx.length) (hp : ∀ i, i < nx.length → 0 ≤ nth pay' i ∧ nth pay' i ≤ 1000) (hc : ∀ i, i < nx.length → 0 ≤ nth cost' i ∧ nth cost' i ≤ 100) : chB nx pay' cost' = true := by
  simp only [chB, Bool.and_eq_true, decide_eq_true_eq] at h ⊢
  refine ⟨h.1, lp, lc, allR fun i hi => ?_⟩
  have h4 := List.all_eq_true.1 h.2.2.2 i (List.mem_range.2 hi)
  simp only [stB, inB, Bool.and_eq_true, decide_eq_true_eq] at h4 ⊢
  exact ⟨h4.1, hp i hi, hc i hi, h4.2.2.2⟩
end Go.Proofs.Ytgamcclfdkpcgaa

set_option linter.unusedVariables false
set_option linter.unusedSimpArgs false
set_option maxRecDepth 10000
namespace Go.Proofs.Ytgamcclfdkpcgaa
open Go Go.Am

variable {h h' : Hp} {K : AV → Hp → Prop}

/-- What 'tame' answers. -/
def Tame (args : List AV) (r : AV) : Prop := PureOk Try.prog 15 args r ∧ ∃ (a : AV) (m : Nat) (nx : List (List Int)) (pay cost : List Int), args = [a, I m] ∧ (chB nx pay cost = true ∧ nx.length ≤ m) ∧ r = ownCh nx pay cost
theorem tame_ex (nx : List (List Int)) (pay cost : List Int) (hk : okN nx pay cost) (m : Nat) (hm : 1 ≤ m ∧ m ≤ 5) : ∃ r, Tame [chA nx pay cost, I m] r := by
  cases c1 : (chB (nxM nx) (listM pay) (listM cost) && decide ((nxM nx).length ≤ m)) with
  | true =>
    rw [Bool.and_eq_true, decide_eq_true_eq] at c1
    obtain ⟨k, hc⟩ := f15_A nx pay cost hk m hm c1
    exact ⟨_, (sound hextA k).2.2.1 _ _ _ hc, _, m, _, _, _, rfl, c1, rfl⟩
  | false =>
    obtain ⟨nx', pay', cost', h, k, hc⟩ := f15_B nx pay cost hk m hm c1
    exact ⟨_, (sound hextB k).2.2.1 _ _ _ hc, _, m, _, _, _, rfl, h, rfl⟩
def offO : List Nat := [3, 4]
open Classical in
noncomputable def extO (f : FuncId) (args : List AV) : Option AV :=
  if f = 15 then (if h : ∃ r, Tame args r then some h.choose else none) else if offO.contains f = true then none else if h : ∃ r, Con Try.prog cfgA f args r then some h.choose else none
noncomputable def cfgO : Cfg := { cfgA with ext := extO, strict := fun a b => a == 4 && b == 8, wr := fun _ _ => [] }
theorem pureA : ∀ f args r, cfgA.ext f args = some r → cfgA.own f = false → r.isPure = true := fun f args r he ho => (hextA f args r he).2 ho
theorem hextO : ExtOk Try.prog cfgO := by
  intro f args r he
  have he : extO f args = some r := he
  unfold extO at he
  split at he
  · split at he
    · rename_i h
      cases he
      exact ⟨by rename_i e; rw [e]; exact h.choose_spec.1, fun ho => by rename_i e; rw [e] at ho; cases ho⟩
    · cases he
  split at he
  · cases he
  · split at he
    · rename_i h
      cases he
      obtain ⟨k, hk⟩ := h.choose_spec
      exact ⟨(sound hextA k).2.2.1 _ _ _ hk, fun ho => callP_pure (P := Try.prog) (cfg := cfgA) pureA ho hk⟩
    · cases he
theorem liftO {f : FuncId} {args : List AV} {r : AV} (hb : (decide (f = 15) || offO.contains f) = false) (hc : Con Try.prog cfgA f args r) : Con Try.prog cfgO f args r := by
  simp only [Bool.or_eq_false_iff, decide_eq_false_iff_not] at hb
  refine ⟨1, ?_⟩
  have : extO f args = some r := by
    unfold extO
    have hex : ∃ r, Con Try.prog cfgA f args r := ⟨r, hc⟩
    rw [if_neg hb.1, if_neg (by rw [hb.2]; decide), dif_pos hex]
    obtain ⟨k, hk⟩ := hex.choose_spec
    obtain ⟨k', hk'⟩ := hc
    rw [callP_det hk hk']
  show (match extO f args with | some r => some r | none => _) = _
  rw [this]
theorem toO {f : FuncId} {args : List AV} {r : AV} (hb : ((decide (f = 15) || offO.contains f) || offA.contains f) = false) (hc : Con Try.prog cfgX f args r) : Con Try.prog cfgO f args r := by
  simp only [Bool.or_eq_false_iff] at hb
  exact liftO (by simp only [Bool.or_eq_false_iff]; exact hb.1) (liftA hb.2 hc)
theorem f15_O (nx0 : List (List Int)) (pay0 cost0 : List Int) (hk : okN nx0 pay0 cost0) (m : Nat) (hm : 1 ≤ m ∧ m ≤ 5) : ∃ nx pay cost, (chB nx pay cost = true ∧ nx.length ≤ m) ∧ Con Try.prog cfgO 15 [chA nx0 pay0 cost0, I m] (ownCh nx pay cost) := by
  have hex := tame_ex nx0 pay0 cost0 hk m hm
  obtain ⟨_, a, m', nx, pay, cost, he, hc, hr⟩ := hex.choose_spec
  have hm' : m = m' := by
    have := List.cons.inj (List.cons.inj he).2
    have h2 := this.1
    injection h2 with _ h3
    omega
  subst hm'
  refine ⟨nx, pay, cost, hc, 1, ?_⟩
  have : extO 15 [chA nx0 pay0 cost0, I m] = some (ownCh nx pay cost) := by
    unfold extO
    rw [if_pos rfl, dif_pos hex, hr]
  show (match extO 15 [chA nx0 pay0 cost0, I m] with | some r => some r | none => _) = _
  rw [this]
@[go_sem] theorem kO21 : ConW Try.prog cfgO 21 h (some ([], h')) K = K (.bool true) h := ConW_num (toO (by decide) awakeX) rfl
@[go_sem] theorem cfgO_strict (a b : Nat) : cfgO.strict a b = (a == 4 && b == 8) := rfl
@[go_sem] theorem cfgO_shr (f : Nat) : cfgO.shared f = cfg.shared f := rfl
@[go_sem] theorem cfgO_own (f : Nat) : cfgO.own f = (f == 28 || (f == 17 || f == 15)) := rfl
@[go_sem] theorem cfgO_kn3 : cfgO.keepNil 3 = false := rfl
@[go_sem] theorem cfgO_kn4 : cfgO.keepNil 4 = false := rfl
@[go_sem] theorem cfgO_wr (a b : Nat) : cfgO.wr a b = [] := rfl
theorem okO3 : funcOk cfgO Try.f3 (Try.f3.body.getD .skip) = true := by kernel_rfl
theorem chB_okN {nx : List (List Int)} {pay cost : List Int} (c : chB nx pay cost = true) : okN nx pay cost := by
  have C := okC.of c
  have := C.n6; have := C.lp; have := C.lc
  have ml : maxLen = 9223372036854775807 := by decide
  exact ⟨by omega, fun r hr => by obtain ⟨i, hi, rfl⟩ := List.getElem_of_mem hr; have := C.row i hi; rw [nth_getElem hi] at this; omega, by omega, by omega⟩
theorem listM_id {l : List Int} (h : l.length ≤ 8) : listM l = l := by rw [listM, List.take_of_length_le]; omega
theorem nxM_id {nx : List (List Int)} (h : nx.length ≤ 8) (hr : ∀ i, i < nx.length → (nth nx i).length ≤ 8) : nxM nx = nx := by
  refine List.ext_getElem? fun i => ?_
  by_cases hi : i < nx.length
  · rw [nxM, List.getElem?_map, List.getElem?_range (by omega)]
    show some (listM (nth nx i)) = _
    rw [listM_id (hr i hi), nth_get hi]
  · rw [List.getElem?_eq_none (by simp [nxM]; omega), List.getElem?_eq_none (by omega)]
/-- A copy of a true chain. -/
theorem f17_O {nx : List (List Int)} {pay cost : List Int} (c : chB nx pay cost = true) : Con Try.prog cfgO 17 [chA nx pay cost] (ownCh nx pay cost) := by
  have C := okC.of c
  have n1 := C.n1; have n6 := C.n6; have lp := C.lp; have lc := C.lc
  have h := f17_A nx pay cost (chB_okN c) (by omega)
  rw [nxM_id (by omega) (fun i hi => by rw [C.row i hi]; omega), listM_id (by omega), listM_id (by omega)] at h
  exact liftO (by decide) h
end Go.Proofs.Ytgamcclfdkpcgaa

set_option linter.unusedVariables false
set_option linter.unusedSimpArgs false
set_option maxRecDepth 10000
namespace Go.Proofs.Ytgamcclfdkpcgaa
open Go Go.Am

/-- With more pay and less cost no value is less. -/
theorem more_vals {nx : List (List Int)} {pay cost pay' cost' : List Int} (C : okC nx pay cost) (C' : okC nx pay' cost') (hp : ∀ i, i < nx.length → nth pay i ≤ nth pay' i) (hc : ∀ i, i < nx.length → nth cost' i ≤ nth cost i) :
    ∀ i, i < nx.length → lessP (nth (bestL nx pay' cost') i) (nth (bestL nx pay cost) i) = false := by
  obtain ⟨V, D, b, hb⟩ := best_all C
  obtain ⟨V', D', b', hb'⟩ := best_all C'
  have hD := b.pos
  have hD' := b'.pos
  have hs : sup nx.length (wF nx) (pF pay) (pF cost) V' D' := fun i hi => by
    obtain ⟨h1, h2⟩ := b'.sup i hi
    have e1 := Int.mul_le_mul_of_nonneg_right (hp i hi) (show 0 ≤ D' by omega)
    have e2 := Int.mul_le_mul_of_nonneg_right (hc i hi) (show 0 ≤ 4 * D' by omega)
    replace h1 : nth pay' i * D' ≤ V' i := h1
    replace h2 : sumN (fun j => wF nx i j * V' j) nx.length - 4 * nth cost' i * D' ≤ 4 * V' i := h2
    have e3 : nth cost' i * (4 * D') = 4 * nth cost' i * D' := by grind
    have e4 : nth cost i * (4 * D') = 4 * nth cost i * D' := by grind
    refine ⟨?_, ?_⟩
    · show nth pay i * D' ≤ V' i; omega
    · show sumN (fun j => wF nx i j * V' j) nx.length - 4 * nth cost i * D' ≤ 4 * V' i; omega
  intro i hi
  have h1 := b.le_sup C.chn hD' hs i hi
  rw [hb i hi, hb' i hi, lessP, decide_eq_false_iff_not]
  intro h
  have := (lessP_rd hD' hD).1 h
  omega
/-- A state with the greatest pay is one in which to stop. -/
theorem top_stops {nx : List (List Int)} {pay cost : List Int} (C : okC nx pay cost) {t : Nat} (ht : t < nx.length) (hmax : ∀ i, i < nx.length → nth pay i ≤ nth pay t) : hasB (stopsL nx.length pay (bestL nx pay cost) nx.length) t = true := by
  obtain ⟨V, D, b, hb⟩ := best_all C
  have hD := b.pos
  have hs : sup nx.length (wF nx) (pF pay) (pF cost) (fun _ => nth pay t) 1 := fun i hi => by
    have h4 := C.chn.w4 i hi
    have hp := C.pb ht
    have hc := C.cb hi
    have hm := hmax i hi
    have e : sumN (fun j => wF nx i j * nth pay t) nx.length = sumN (wF nx i) nx.length * nth pay t := by
      rw [Int.mul_comm, ← sumN_mul]
      exact sumN_congr fun j _ => Int.mul_comm _ _
    have h5 : sumN (wF nx i) nx.length * nth pay t ≤ 4 * nth pay t := Int.mul_le_mul_of_nonneg_right h4 hp.1
    refine ⟨?_, ?_⟩
    · show nth pay i * 1 ≤ nth pay t; omega
    · show sumN (fun j => wF nx i j * nth pay t) nx.length - 4 * nth cost i * 1 ≤ 4 * nth pay t
      rw [e]
      generalize sumN (wF nx i) nx.length * nth pay t = q at *
      omega
  have h1 := b.le_sup C.chn (by decide) hs t ht
  have h2 := (b.sup t ht).1
  rw [stopsL, filtL_has _ ht, hb t ht, ← Bool.decide_and, decide_eq_true_eq, stop_iff hD]
  replace h1 : V t * 1 ≤ nth pay t * D := h1
  replace h2 : nth pay t * D ≤ V t := h2
  omega
end Go.Proofs.Ytgamcclfdkpcgaa

set_option linter.unusedVariables false
set_option linter.unusedSimpArgs false
set_option maxRecDepth 10000
namespace Go.Proofs.Ytgamcclfdkpcgaa
open Go Go.Am

variable {h h' : Hp} {K : AV → Hp → Prop}

theorem flat_vec' {P : List Int} {n : Nat} (h : P.length = n) : P.flatMap (e1 I) = vecA (fun j => nth P j) n := by
  rw [vecA_flat]
  congr 1
  refine List.ext_getElem? fun i => ?_
  by_cases hi : i < n
  · rw [List.getElem?_map, List.getElem?_range hi, nth_get (by omega)]; rfl
  · rw [List.getElem?_eq_none (by omega), List.getElem?_eq_none (by simp; omega)]
theorem nth_rng' (f : Nat → Int) {n i : Nat} (hi : i < n) : nth ((List.range n).map f) i = f i := nth_map_range _ _ _ hi
theorem put_same3 {g : Hp} {a : Nat} {b : Blk} (hb : g.bl a = some b) : g.put a (some b) = g := by
  unfold Hp.put
  congr 1
  funext i
  split
  · rename_i e; rw [e]; exact hb.symm
  · rfl
/-- A chain of one's own that is frozen already. -/
theorem seal_frz3 {g : Hp} {a b c : Nat} {R : List (List Int)} {P C : List Int} (h1 : g.bl a = some (.cells true true (R.flatMap (e1 LI)))) (h2 : g.bl b = some (.cells true true (P.flatMap (e1 I)))) (h3 : g.bl c = some (.cells true true (C.flatMap (e1 I))))
    (ab : a ≠ b) (ac : a ≠ c) (bc : b ≠ c) : sealA g (.agg [.sl a 0 R.length 1, .sl b 0 P.length 1, .sl c 0 C.length 1]) = some (chA R P C, g) := by
  rw [seal_own3 h1 h2 h3 ab ac bc, put_same3 h1, put_same3 h2, put_same3 h3]
theorem mul_bd3 {a b A B : Int} (ha : -A ≤ a ∧ a ≤ A) (hb : 0 ≤ b ∧ b ≤ B) : -(A * B) ≤ a * b ∧ a * b ≤ A * B := by
  have h1 : a * b ≤ A * b := Int.mul_le_mul_of_nonneg_right ha.2 hb.1
  have h2 : -A * b ≤ a * b := Int.mul_le_mul_of_nonneg_right ha.1 hb.1
  have h3 : A * b ≤ A * B := Int.mul_le_mul_of_nonneg_left hb.2 (by omega)
  have h4 : -A * b = -(A * b) := Int.neg_mul _ _
  omega

/-- The memory from region 5 on. -/
def Mem3 (n : Nat) (u w : Int) (nx : List (List Int)) (pay cost : List Int) (P7 C11 : List AV) (h : Hp) : Prop :=
  h.nx = 14 ∧ h.bl 1 = some (.cells false false [I u, I w]) ∧ h.bl 3 = some (.cells true true (pay.flatMap (e1 I))) ∧ h.bl 5 = some (.cells false false [.sl 2 0 n 1, .sl 3 0 n 1, .sl 4 0 n 1]) ∧
      (h.bl 6 = some (.cells false true (nx.flatMap (e1 LI))) ∧ h.bl 7 = some (.cells false true P7) ∧ h.bl 8 = some (.cells false true (cost.flatMap (e1 I))) ∧ h.bl 12 = some (.cells false false [.sl 6 0 n 1, .sl 7 0 n 1, .sl 8 0 n 1])) ∧
      (h.bl 9 = some (.cells false true (nx.flatMap (e1 LI))) ∧ h.bl 10 = some (.cells false true (pay.flatMap (e1 I))) ∧ h.bl 11 = some (.cells false true C11) ∧ h.bl 13 = some (.cells false false [.sl 9 0 n 1, .sl 10 0 n 1, .sl 11 0 n 1]))
set_option maxHeartbeats 2000000 in
theorem f3_con (nx0 : List (List Int)) (pay0 cost0 : List Int) (u w : Int) (hk : okN nx0 pay0 cost0) : Con Try.prog cfgO 3 [chA nx0 pay0 cost0, .agg [I u, I w]] (.bool true) := by
  have ml : maxLen = 9223372036854775807 := by decide
  have hal : ∀ (g : Hp) nx pay cost, allocB g (some (chA nx pay cost)) = some (.ptr g.nx 0, g.alloc (.cells false false [LLI nx, LI pay, LI cost])) := fun g _ _ _ => allocB_agg _ rfl
  have hse : ∀ (h : Hp) nx pay cost, sealA h (chA nx pay cost) = some (chA nx pay cost, h) := fun h _ _ _ => sealA_agg _ (by simp only [AV.pureL, pure_L, Bool.and_true])
  have hal2 : ∀ g : Hp, allocB g (some (.agg [.nil, .nil, .nil])) = some (.ptr g.nx 0, g.alloc (.cells false false [.nil, .nil, .nil])) := fun g => allocB_agg _ rfl
  have hal3 : ∀ g : Hp, allocB g (some (.agg [I u, I w])) = some (.ptr g.nx 0, g.alloc (.cells false false [I u, I w])) := fun g => allocB_agg _ rfl
  obtain ⟨nx, pay, cost, ⟨c1, h5⟩, c15⟩ := f15_O nx0 pay0 cost0 hk 5 (by decide)
  replace c15 : Con Try.prog cfgO 15 [chA nx0 pay0 cost0, I 5] (ownCh nx pay cost) := c15
  have C := okC.of c1
  have hn1 := C.n1
  have hlp := C.lp
  have hlc := C.lc
  have k15 := fun h h' K => ConW_any (h := h) (h' := h') (K := K) c15 rfl (ownCh_free _ _ (by omega))
  have hi15 := fun h => importR_ownCh (h := h) nx pay cost
  have hst : ∀ (g : Hp) (id a b c x y z : Nat), storeC g id 0 3 (some (.cells false false [.nil, .nil, .nil])) [.sl a 0 x 1, .sl b 0 y 1, .sl c 0 z 1] = some (.skp, g.put id (some (.cells false false [.sl a 0 x 1, .sl b 0 y 1, .sl c 0 z 1]))) := fun g id a b c x y z => by simp [storeC, setL, AV.isCell]
  have k18 := fun (x m : Int) (hm : 0 < m ∧ m ≤ 9223372036854775807) h h' K => ConW_num (h := h) (h' := h') (K := K) (toO (by decide) (liftX (by decide) (f18_con x m hm))) rfl
  obtain ⟨n, hn⟩ : ∃ n, n = nx.length := ⟨_, rfl⟩
  have fP := flat_vec' (hlp.trans hn.symm)
  have fC := flat_vec' (hlc.trans hn.symm)
  have r1 : bstR nx pay cost (bestL nx pay cost) = .tup [LP (bestL nx pay cost), LI (stopsL nx.length pay (bestL nx pay cost) nx.length), I 0] := by rw [bstR, c1]; rfl
  have ka := fun h h' K => ConW_any (h := h) (h' := h') (K := K) (toO (by decide) (f16_con nx pay cost (chB_okN c1))) (by rw [r1]; rfl) (by rw [r1]; rfl)
  rw [r1] at ka
  have hi3 : ∀ (h : Hp) (a : List (Int × Int)) (l : List Int), importR h (.tup [LP a, LI l, I 0]) = (.tup [LP a, LI l, I 0], h) := fun _ _ _ => rfl
  have l1 := bestL_len C
  obtain ⟨x1, _, hx1, _, hxe1⟩ := best_is C
  have v1 := val_small C (by omega) hx1
  rw [← hxe1] at v1
  have hsl := stops_len nx.length pay (bestL nx pay cost)
  have htop := fun t ht hm => top_stops C (t := t) ht hm
  have hmore := fun (pay' cost' : List Int) (c : chB nx pay' cost' = true) => more_vals (pay' := pay') (cost' := cost') C (okC.of c)
  rw [← hn] at l1
  generalize stopsL nx.length pay (bestL nx pay cost) nx.length = sl at *
  generalize bestL nx pay cost = B at *
  have k17 := fun h h' K => ConW_any (h := h) (h' := h') (K := K) (f17_O c1) rfl (ownCh_free _ _ (by omega))
  rw [hlp, hlc, ← hn] at hi15
  refine Con_intro Try.func3 rfl okO3 (Nat.le_of_ble_eq_true rfl) rfl ?_
  simp only [Try.f3, Option.getD_some, initSt2]
  simp (disch := first | (simp only [go_sem, gb0, eq_self]; done) | omega | (simp only [gl1, gl2]; omega)) only [go_sem, ↓reduceIte, Nat.reduceEqDiff, Nat.reduceAdd, Nat.reduceMul, Nat.reduceSub, Int.reduceToNat, Nat.reduceBEq, hal, hal2, hal3, hse, k15, hi15, hst, ↓stopY 3 false]
  refine WPy_go (fun st h => (st 4 = .bool false ∧ st 3 = .ptr 1 0 ∧ st 5 = .ptr 5 0 ∧ st 6 = I n ∧ st 10 = .skp ∧ st 11 = .skp) ∧ h.nx = 6 ∧ h.bl 1 = some (.cells false false [I u, I w]) ∧ h.bl 2 = some (.cells false true (nx.flatMap (e1 LI))) ∧ h.bl 3 = some (.cells false true (pay.flatMap (e1 I))) ∧ h.bl 4 = some (.cells false true (cost.flatMap (e1 I))) ∧ h.bl 5 = some (.cells false false [.sl 2 0 n 1, .sl 3 0 n 1, .sl 4 0 n 1]))
    ⟨⟨by simp (disch := first | (simp only [go_sem, gb0, eq_self]; done) | omega | (simp only [gl1, gl2]; omega)) only [go_sem, ↓reduceIte, Nat.reduceEqDiff, Nat.reduceAdd, Nat.reduceMul, Nat.reduceSub, Int.reduceToNat, Nat.reduceBEq], by simp (disch := first | (simp only [go_sem, gb0, eq_self]; done) | omega | (simp only [gl1, gl2]; omega)) only [go_sem, ↓reduceIte, Nat.reduceEqDiff, Nat.reduceAdd, Nat.reduceMul, Nat.reduceSub, Int.reduceToNat, Nat.reduceBEq], by simp (disch := first | (simp only [go_sem, gb0, eq_self]; done) | omega | (simp only [gl1, gl2]; omega)) only [go_sem, ↓reduceIte, Nat.reduceEqDiff, Nat.reduceAdd, Nat.reduceMul, Nat.reduceSub, Int.reduceToNat, Nat.reduceBEq], by simp (disch := first | (simp only [go_sem, gb0, eq_self]; done) | omega | (simp only [gl1, gl2]; omega)) only [go_sem, ↓reduceIte, Nat.reduceEqDiff, Nat.reduceAdd, Nat.reduceMul, Nat.reduceSub, Int.reduceToNat, Nat.reduceBEq], by simp (disch := first | (simp only [go_sem, gb0, eq_self]; done) | omega | (simp only [gl1, gl2]; omega)) only [go_sem, ↓reduceIte, Nat.reduceEqDiff, Nat.reduceAdd, Nat.reduceMul, Nat.reduceSub, Int.reduceToNat, Nat.reduceBEq, show st0 10 = .skp from rfl], by simp (disch := first | (simp only [go_sem, gb0, eq_self]; done) | omega | (simp only [gl1, gl2]; omega)) only [go_sem, ↓reduceIte, Nat.reduceEqDiff, Nat.reduceAdd, Nat.reduceMul, Nat.reduceSub, Int.reduceToNat, Nat.reduceBEq, show st0 11 = .skp from rfl]⟩, by simp (disch := first | (simp only [go_sem, gb0, eq_self]; done) | omega | (simp only [gl1, gl2]; omega)) only [go_sem, ↓reduceIte, Nat.reduceEqDiff, Nat.reduceAdd, Nat.reduceMul, Nat.reduceSub, Int.reduceToNat, Nat.reduceBEq]⟩ ?_
  rintro st h ⟨⟨s4, s3, s5, s6, s10, s11⟩, hnx, b1, b2, b3, b4, b5⟩
  have hse3 := seal_own3 (R := nx) (P := pay) (C := cost) b2 b3 b4 (by decide) (by decide) (by decide)
  rw [hlp, hlc, ← hn] at hse3
  simp (disch := first | (simp only [go_sem, gb0, eq_self]; done) | omega | (simp only [gl1, gl2]; omega)) only [go_sem, ↓reduceIte, Nat.reduceEqDiff, Nat.reduceAdd, Nat.reduceMul, Nat.reduceSub, Int.reduceToNat, Nat.reduceBEq, s4, s3, s5, s6, s10, s11, b5, hse3, ka, hi3, ↓stopY 4 true]
  refine WPy_go (fun st h => st 4 = .bool false ∧ st 3 = .ptr 1 0 ∧ st 5 = .ptr 5 0 ∧ st 6 = I n ∧ st 10 = .skp ∧ st 11 = .skp ∧ st 7 = LP B ∧ st 8 = LI sl ∧ st 9 = I 0 ∧ h.nx = 6 ∧ h.bl 1 = some (.cells false false [I u, I w]) ∧ h.bl 2 = some (.cells true true (nx.flatMap (e1 LI))) ∧ h.bl 3 = some (.cells true true (pay.flatMap (e1 I))) ∧ h.bl 4 = some (.cells true true (cost.flatMap (e1 I))) ∧ h.bl 5 = some (.cells false false [.sl 2 0 n 1, .sl 3 0 n 1, .sl 4 0 n 1]))
    ⟨by simp (disch := first | (simp only [go_sem, gb0, eq_self]; done) | omega | (simp only [gl1, gl2]; omega)) only [go_sem, ↓reduceIte, Nat.reduceEqDiff, Nat.reduceAdd, Nat.reduceMul, Nat.reduceSub, Int.reduceToNat, Nat.reduceBEq, s4, s3, s5, s6, s10, s11], by simp (disch := first | (simp only [go_sem, gb0, eq_self]; done) | omega | (simp only [gl1, gl2]; omega)) only [go_sem, ↓reduceIte, Nat.reduceEqDiff, Nat.reduceAdd, Nat.reduceMul, Nat.reduceSub, Int.reduceToNat, Nat.reduceBEq, s4, s3, s5, s6, s10, s11], by simp (disch := first | (simp only [go_sem, gb0, eq_self]; done) | omega | (simp only [gl1, gl2]; omega)) only [go_sem, ↓reduceIte, Nat.reduceEqDiff, Nat.reduceAdd, Nat.reduceMul, Nat.reduceSub, Int.reduceToNat, Nat.reduceBEq, s4, s3, s5, s6, s10, s11], by simp (disch := first | (simp only [go_sem, gb0, eq_self]; done) | omega | (simp only [gl1, gl2]; omega)) only [go_sem, ↓reduceIte, Nat.reduceEqDiff, Nat.reduceAdd, Nat.reduceMul, Nat.reduceSub, Int.reduceToNat, Nat.reduceBEq, s4, s3, s5, s6, s10, s11], by simp (disch := first | (simp only [go_sem, gb0, eq_self]; done) | omega | (simp only [gl1, gl2]; omega)) only [go_sem, ↓reduceIte, Nat.reduceEqDiff, Nat.reduceAdd, Nat.reduceMul, Nat.reduceSub, Int.reduceToNat, Nat.reduceBEq, s4, s3, s5, s6, s10, s11], by simp (disch := first | (simp only [go_sem, gb0, eq_self]; done) | omega | (simp only [gl1, gl2]; omega)) only [go_sem, ↓reduceIte, Nat.reduceEqDiff, Nat.reduceAdd, Nat.reduceMul, Nat.reduceSub, Int.reduceToNat, Nat.reduceBEq, s4, s3, s5, s6, s10, s11], by simp (disch := first | (simp only [go_sem, gb0, eq_self]; done) | omega | (simp only [gl1, gl2]; omega)) only [go_sem, ↓reduceIte, Nat.reduceEqDiff, Nat.reduceAdd, Nat.reduceMul, Nat.reduceSub, Int.reduceToNat, Nat.reduceBEq, s4, s3, s5, s6, s10, s11], by simp (disch := first | (simp only [go_sem, gb0, eq_self]; done) | omega | (simp only [gl1, gl2]; omega)) only [go_sem, ↓reduceIte, Nat.reduceEqDiff, Nat.reduceAdd, Nat.reduceMul, Nat.reduceSub, Int.reduceToNat, Nat.reduceBEq, s4, s3, s5, s6, s10, s11], by simp (disch := first | (simp only [go_sem, gb0, eq_self]; done) | omega | (simp only [gl1, gl2]; omega)) only [go_sem, ↓reduceIte, Nat.reduceEqDiff, Nat.reduceAdd, Nat.reduceMul, Nat.reduceSub, Int.reduceToNat, Nat.reduceBEq, s4, s3, s5, s6, s10, s11], by simp (disch := first | (simp only [go_sem, gb0, eq_self]; done) | omega | (simp only [gl1, gl2]; omega)) only [go_sem, ↓reduceIte, Nat.reduceEqDiff, Nat.reduceAdd, Nat.reduceMul, Nat.reduceSub, Int.reduceToNat, Nat.reduceBEq, hnx], by simp (disch := first | (simp only [go_sem, gb0, eq_self]; done) | omega | (simp only [gl1, gl2]; omega)) only [go_sem, ↓reduceIte, Nat.reduceEqDiff, Nat.reduceAdd, Nat.reduceMul, Nat.reduceSub, Int.reduceToNat, Nat.reduceBEq, b1], by simp (disch := first | (simp only [go_sem, gb0, eq_self]; done) | omega | (simp only [gl1, gl2]; omega)) only [go_sem, ↓reduceIte, Nat.reduceEqDiff, Nat.reduceAdd, Nat.reduceMul, Nat.reduceSub, Int.reduceToNat, Nat.reduceBEq], by simp (disch := first | (simp only [go_sem, gb0, eq_self]; done) | omega | (simp only [gl1, gl2]; omega)) only [go_sem, ↓reduceIte, Nat.reduceEqDiff, Nat.reduceAdd, Nat.reduceMul, Nat.reduceSub, Int.reduceToNat, Nat.reduceBEq], by simp (disch := first | (simp only [go_sem, gb0, eq_self]; done) | omega | (simp only [gl1, gl2]; omega)) only [go_sem, ↓reduceIte, Nat.reduceEqDiff, Nat.reduceAdd, Nat.reduceMul, Nat.reduceSub, Int.reduceToNat, Nat.reduceBEq], by simp (disch := first | (simp only [go_sem, gb0, eq_self]; done) | omega | (simp only [gl1, gl2]; omega)) only [go_sem, ↓reduceIte, Nat.reduceEqDiff, Nat.reduceAdd, Nat.reduceMul, Nat.reduceSub, Int.reduceToNat, Nat.reduceBEq, b5]⟩ ?_
  clear b1 b2 b3 b4 b5 hse3 hnx s4 s3 s5 s6 s10 s11 h
  rintro st h ⟨s4, s3, s5, s6, s10, s11, s7, s8, s9, hnx, b1, b2, b3, b4, b5⟩
  have hsA := seal_frz3 (R := nx) (P := pay) (C := cost) b2 b3 b4 (by decide) (by decide) (by decide)
  rw [hlp, hlc, ← hn] at hsA
  have hsB := seal_frz3 (g := ((h.alloc (.cells false true (nx.flatMap (e1 LI)))).alloc (.cells false true (pay.flatMap (e1 I)))).alloc (.cells false true (cost.flatMap (e1 I)))) (R := nx) (P := pay) (C := cost) (a := 2) (b := 3) (c := 4) (by simp [Hp.alloc, hnx, b2]) (by simp [Hp.alloc, hnx, b3]) (by simp [Hp.alloc, hnx, b4]) (by decide) (by decide) (by decide)
  rw [hlp, hlc, ← hn] at hsB
  simp (maxSteps := 3000000) (disch := first | (simp only [go_sem, gb0, eq_self]; done) | omega | (simp only [gl1, gl2]; omega)) only [go_sem, ↓reduceIte, Nat.reduceEqDiff, Nat.reduceAdd, Nat.reduceMul, Nat.reduceSub, Int.reduceToNat, Nat.reduceBEq, s4, s3, s5, s6, s10, s11, s7, s8, s9, b5, hsA, hsB, k17, hi15, hal2, hst, hnx, ↓stopY 5 false, List.filterMap_cons, List.filterMap_nil, List.contains_nil, List.contains_cons, Bool.not_false, Bool.not_true, Bool.or_true, Bool.true_or, List.nil_append, List.cons_append, Nat.reduceLT, decide_true, decide_false, List.drop_succ_cons]
  refine WPy_go (fun st h => st 4 = .bool false ∧ st 3 = .ptr 1 0 ∧ st 5 = .ptr 5 0 ∧ st 6 = I n ∧ st 10 = .ptr 12 0 ∧ st 11 = .ptr 13 0 ∧ st 7 = LP B ∧ st 8 = LI sl ∧ st 9 = I 0 ∧ Mem3 n u w nx pay cost (pay.flatMap (e1 I)) (cost.flatMap (e1 I)) h)
    ⟨by simp (disch := first | (simp only [go_sem, gb0, eq_self]; done) | omega | (simp only [gl1, gl2]; omega)) only [go_sem, ↓reduceIte, Nat.reduceEqDiff, Nat.reduceAdd, Nat.reduceMul, Nat.reduceSub, Int.reduceToNat, Nat.reduceBEq, s4, s3, s5, s6, s10, s11, s7, s8, s9], by simp (disch := first | (simp only [go_sem, gb0, eq_self]; done) | omega | (simp only [gl1, gl2]; omega)) only [go_sem, ↓reduceIte, Nat.reduceEqDiff, Nat.reduceAdd, Nat.reduceMul, Nat.reduceSub, Int.reduceToNat, Nat.reduceBEq, s4, s3, s5, s6, s10, s11, s7, s8, s9], by simp (disch := first | (simp only [go_sem, gb0, eq_self]; done) | omega | (simp only [gl1, gl2]; omega)) only [go_sem, ↓reduceIte, Nat.reduceEqDiff, Nat.reduceAdd, Nat.reduceMul, Nat.reduceSub, Int.reduceToNat, Nat.reduceBEq, s4, s3, s5, s6, s10, s11, s7, s8, s9], by simp (disch := first | (simp only [go_sem, gb0, eq_self]; done) | omega | (simp only [gl1, gl2]; omega)) only [go_sem, ↓reduceIte, Nat.reduceEqDiff, Nat.reduceAdd, Nat.reduceMul, Nat.reduceSub, Int.reduceToNat, Nat.reduceBEq, s4, s3, s5, s6, s10, s11, s7, s8, s9], by simp (disch := first | (simp only [go_sem, gb0, eq_self]; done) | omega | (simp only [gl1, gl2]; omega)) only [go_sem, ↓reduceIte, Nat.reduceEqDiff, Nat.reduceAdd, Nat.reduceMul, Nat.reduceSub, Int.reduceToNat, Nat.reduceBEq, s4, s3, s5, s6, s10, s11, s7, s8, s9], by simp (disch := first | (simp only [go_sem, gb0, eq_self]; done) | omega | (simp only [gl1, gl2]; omega)) only [go_sem, ↓reduceIte, Nat.reduceEqDiff, Nat.reduceAdd, Nat.reduceMul, Nat.reduceSub, Int.reduceToNat, Nat.reduceBEq, s4, s3, s5, s6, s10, s11, s7, s8, s9], by simp (disch := first | (simp only [go_sem, gb0, eq_self]; done) | omega | (simp only [gl1, gl2]; omega)) only [go_sem, ↓reduceIte, Nat.reduceEqDiff, Nat.reduceAdd, Nat.reduceMul, Nat.reduceSub, Int.reduceToNat, Nat.reduceBEq, s4, s3, s5, s6, s10, s11, s7, s8, s9], by simp (disch := first | (simp only [go_sem, gb0, eq_self]; done) | omega | (simp only [gl1, gl2]; omega)) only [go_sem, ↓reduceIte, Nat.reduceEqDiff, Nat.reduceAdd, Nat.reduceMul, Nat.reduceSub, Int.reduceToNat, Nat.reduceBEq, s4, s3, s5, s6, s10, s11, s7, s8, s9], by simp (disch := first | (simp only [go_sem, gb0, eq_self]; done) | omega | (simp only [gl1, gl2]; omega)) only [go_sem, ↓reduceIte, Nat.reduceEqDiff, Nat.reduceAdd, Nat.reduceMul, Nat.reduceSub, Int.reduceToNat, Nat.reduceBEq, s4, s3, s5, s6, s10, s11, s7, s8, s9], by simp (disch := first | (simp only [go_sem, gb0, eq_self]; done) | omega | (simp only [gl1, gl2]; omega)) only [go_sem, ↓reduceIte, Nat.reduceEqDiff, Nat.reduceAdd, Nat.reduceMul, Nat.reduceSub, Int.reduceToNat, Nat.reduceBEq, hnx], by simp (disch := first | (simp only [go_sem, gb0, eq_self]; done) | omega | (simp only [gl1, gl2]; omega)) only [go_sem, ↓reduceIte, Nat.reduceEqDiff, Nat.reduceAdd, Nat.reduceMul, Nat.reduceSub, Int.reduceToNat, Nat.reduceBEq, hnx, b1], by simp (disch := first | (simp only [go_sem, gb0, eq_self]; done) | omega | (simp only [gl1, gl2]; omega)) only [go_sem, ↓reduceIte, Nat.reduceEqDiff, Nat.reduceAdd, Nat.reduceMul, Nat.reduceSub, Int.reduceToNat, Nat.reduceBEq, hnx, b3], by simp (disch := first | (simp only [go_sem, gb0, eq_self]; done) | omega | (simp only [gl1, gl2]; omega)) only [go_sem, ↓reduceIte, Nat.reduceEqDiff, Nat.reduceAdd, Nat.reduceMul, Nat.reduceSub, Int.reduceToNat, Nat.reduceBEq, hnx, b5], ⟨by simp (disch := first | (simp only [go_sem, gb0, eq_self]; done) | omega | (simp only [gl1, gl2]; omega)) only [go_sem, ↓reduceIte, Nat.reduceEqDiff, Nat.reduceAdd, Nat.reduceMul, Nat.reduceSub, Int.reduceToNat, Nat.reduceBEq, hnx], by simp (disch := first | (simp only [go_sem, gb0, eq_self]; done) | omega | (simp only [gl1, gl2]; omega)) only [go_sem, ↓reduceIte, Nat.reduceEqDiff, Nat.reduceAdd, Nat.reduceMul, Nat.reduceSub, Int.reduceToNat, Nat.reduceBEq, hnx], by simp (disch := first | (simp only [go_sem, gb0, eq_self]; done) | omega | (simp only [gl1, gl2]; omega)) only [go_sem, ↓reduceIte, Nat.reduceEqDiff, Nat.reduceAdd, Nat.reduceMul, Nat.reduceSub, Int.reduceToNat, Nat.reduceBEq, hnx], by simp (disch := first | (simp only [go_sem, gb0, eq_self]; done) | omega | (simp only [gl1, gl2]; omega)) only [go_sem, ↓reduceIte, Nat.reduceEqDiff, Nat.reduceAdd, Nat.reduceMul, Nat.reduceSub, Int.reduceToNat, Nat.reduceBEq, hnx]⟩, by simp (disch := first | (simp only [go_sem, gb0, eq_self]; done) | omega | (simp only [gl1, gl2]; omega)) only [go_sem, ↓reduceIte, Nat.reduceEqDiff, Nat.reduceAdd, Nat.reduceMul, Nat.reduceSub, Int.reduceToNat, Nat.reduceBEq, hnx], by simp (disch := first | (simp only [go_sem, gb0, eq_self]; done) | omega | (simp only [gl1, gl2]; omega)) only [go_sem, ↓reduceIte, Nat.reduceEqDiff, Nat.reduceAdd, Nat.reduceMul, Nat.reduceSub, Int.reduceToNat, Nat.reduceBEq, hnx], by simp (disch := first | (simp only [go_sem, gb0, eq_self]; done) | omega | (simp only [gl1, gl2]; omega)) only [go_sem, ↓reduceIte, Nat.reduceEqDiff, Nat.reduceAdd, Nat.reduceMul, Nat.reduceSub, Int.reduceToNat, Nat.reduceBEq, hnx], by simp (disch := first | (simp only [go_sem, gb0, eq_self]; done) | omega | (simp only [gl1, gl2]; omega)) only [go_sem, ↓reduceIte, Nat.reduceEqDiff, Nat.reduceAdd, Nat.reduceMul, Nat.reduceSub, Int.reduceToNat, Nat.reduceBEq, hnx]⟩ ?_
  clear b1 b2 b3 b4 b5 hsA hsB hnx s4 s3 s5 s6 s7 s8 s9 s10 s11 h
  rintro st h ⟨s4, s3, s5, s6, s10, s11, s7, s8, s9, hnx, b1, b3, b5, ⟨b6, b7, b8, b12⟩, b9, b10, b11, b13⟩
  have hju := modI_bounds u (n := (n : Int)) (by omega)
  have kj := fun h h' K => k18 u n (by omega) h h' K
  obtain ⟨j, hj⟩ : ∃ j : Nat, modI u n = (j : Int) := ⟨(modI u n).toNat, by omega⟩
  simp only [hj] at kj
  have hjn : j < n := by omega
  have hjn' : (j : Int) < n := by omega
  have m3 := modI_bounds w (n := 300) (by decide)
  have m4 := modI_bounds w (n := 30) (by decide)
  have k300 := fun h h' K => k18 w 300 (by decide) h h' K
  have k30 := fun h h' K => k18 w 30 (by decide) h h' K
  generalize modI w 300 = e300 at *
  generalize modI w 30 = e30 at *
  have hpb := C.pb (i := j) (by omega)
  have hcb := C.cb (i := j) (by omega)
  obtain ⟨p', hp'⟩ : ∃ p', p' = min 1000 (nth pay j + e300) := ⟨_, rfl⟩
  obtain ⟨c', hc'⟩ : ∃ c', c' = max 0 (nth cost j - e30) := ⟨_, rfl⟩
  rw [fP] at b7
  rw [fC] at b11
  simp (disch := first | (simp only [go_sem, gb0, eq_self]; done) | omega | (simp only [gl1, gl2]; omega)) only [go_sem, ↓reduceIte, Nat.reduceEqDiff, Nat.reduceAdd, Nat.reduceMul, Nat.reduceSub, Int.reduceToNat, Nat.reduceBEq, s4, s3, s5, s6, s10, s11, s7, s8, s9, hnx, b1, kj, ↓stopY 6 true]
  refine WPy_go (fun st h => st 4 = .bool false ∧ st 3 = .ptr 1 0 ∧ st 5 = .ptr 5 0 ∧ st 6 = I n ∧ st 10 = .ptr 12 0 ∧ st 11 = .ptr 13 0 ∧ st 7 = LP B ∧ st 8 = LI sl ∧ st 9 = I 0 ∧ st 12 = I j ∧ Mem3 n u w nx pay cost (vecA (fun i => nth pay i) n) (vecA (fun i => nth cost i) n) h)
    ⟨by simp (disch := first | (simp only [go_sem, gb0, eq_self]; done) | omega | (simp only [gl1, gl2]; omega)) only [go_sem, ↓reduceIte, Nat.reduceEqDiff, Nat.reduceAdd, Nat.reduceMul, Nat.reduceSub, Int.reduceToNat, Nat.reduceBEq, s4, s3, s5, s6, s10, s11, s7, s8, s9], by simp (disch := first | (simp only [go_sem, gb0, eq_self]; done) | omega | (simp only [gl1, gl2]; omega)) only [go_sem, ↓reduceIte, Nat.reduceEqDiff, Nat.reduceAdd, Nat.reduceMul, Nat.reduceSub, Int.reduceToNat, Nat.reduceBEq, s4, s3, s5, s6, s10, s11, s7, s8, s9], by simp (disch := first | (simp only [go_sem, gb0, eq_self]; done) | omega | (simp only [gl1, gl2]; omega)) only [go_sem, ↓reduceIte, Nat.reduceEqDiff, Nat.reduceAdd, Nat.reduceMul, Nat.reduceSub, Int.reduceToNat, Nat.reduceBEq, s4, s3, s5, s6, s10, s11, s7, s8, s9], by simp (disch := first | (simp only [go_sem, gb0, eq_self]; done) | omega | (simp only [gl1, gl2]; omega)) only [go_sem, ↓reduceIte, Nat.reduceEqDiff, Nat.reduceAdd, Nat.reduceMul, Nat.reduceSub, Int.reduceToNat, Nat.reduceBEq, s4, s3, s5, s6, s10, s11, s7, s8, s9], by simp (disch := first | (simp only [go_sem, gb0, eq_self]; done) | omega | (simp only [gl1, gl2]; omega)) only [go_sem, ↓reduceIte, Nat.reduceEqDiff, Nat.reduceAdd, Nat.reduceMul, Nat.reduceSub, Int.reduceToNat, Nat.reduceBEq, s4, s3, s5, s6, s10, s11, s7, s8, s9], by simp (disch := first | (simp only [go_sem, gb0, eq_self]; done) | omega | (simp only [gl1, gl2]; omega)) only [go_sem, ↓reduceIte, Nat.reduceEqDiff, Nat.reduceAdd, Nat.reduceMul, Nat.reduceSub, Int.reduceToNat, Nat.reduceBEq, s4, s3, s5, s6, s10, s11, s7, s8, s9], by simp (disch := first | (simp only [go_sem, gb0, eq_self]; done) | omega | (simp only [gl1, gl2]; omega)) only [go_sem, ↓reduceIte, Nat.reduceEqDiff, Nat.reduceAdd, Nat.reduceMul, Nat.reduceSub, Int.reduceToNat, Nat.reduceBEq, s4, s3, s5, s6, s10, s11, s7, s8, s9], by simp (disch := first | (simp only [go_sem, gb0, eq_self]; done) | omega | (simp only [gl1, gl2]; omega)) only [go_sem, ↓reduceIte, Nat.reduceEqDiff, Nat.reduceAdd, Nat.reduceMul, Nat.reduceSub, Int.reduceToNat, Nat.reduceBEq, s4, s3, s5, s6, s10, s11, s7, s8, s9], by simp (disch := first | (simp only [go_sem, gb0, eq_self]; done) | omega | (simp only [gl1, gl2]; omega)) only [go_sem, ↓reduceIte, Nat.reduceEqDiff, Nat.reduceAdd, Nat.reduceMul, Nat.reduceSub, Int.reduceToNat, Nat.reduceBEq, s4, s3, s5, s6, s10, s11, s7, s8, s9], by simp (disch := first | (simp only [go_sem, gb0, eq_self]; done) | omega | (simp only [gl1, gl2]; omega)) only [go_sem, ↓reduceIte, Nat.reduceEqDiff, Nat.reduceAdd, Nat.reduceMul, Nat.reduceSub, Int.reduceToNat, Nat.reduceBEq, s4, s3, s5, s6, s10, s11, s7, s8, s9], hnx, b1, b3, b5, ⟨b6, b7, b8, b12⟩, b9, b10, b11, b13⟩ ?_
  clear hnx b1 b3 b5 b6 b7 b8 b12 b9 b10 b11 b13 s4 s3 s5 s6 s7 s8 s9 s10 s11 h
  rintro st h ⟨s4, s3, s5, s6, s10, s11, s7, s8, s9, s12, hnx, b1, b3, b5, ⟨b6, b7, b8, b12⟩, b9, b10, b11, b13⟩
  simp (disch := first | (simp only [go_sem, gb0, eq_self]; done) | omega | (simp only [gl1, gl2]; omega)) only [go_sem, ↓reduceIte, Nat.reduceEqDiff, Nat.reduceAdd, Nat.reduceMul, Nat.reduceSub, Int.reduceToNat, Nat.reduceBEq, s4, s3, s5, s6, s10, s11, s7, s8, s9, s12, hnx, b1, b12, b7, hjn, hjn', k300, ← hp', ↓stopY 7 true]
  refine WPy_go (fun st h => st 4 = .bool false ∧ st 3 = .ptr 1 0 ∧ st 5 = .ptr 5 0 ∧ st 6 = I n ∧ st 10 = .ptr 12 0 ∧ st 11 = .ptr 13 0 ∧ st 7 = LP B ∧ st 8 = LI sl ∧ st 9 = I 0 ∧ st 12 = I j ∧ Mem3 n u w nx pay cost (vecA (setV (fun i => nth pay i) j p') n) (vecA (fun i => nth cost i) n) h)
    ⟨by simp (disch := first | (simp only [go_sem, gb0, eq_self]; done) | omega | (simp only [gl1, gl2]; omega)) only [go_sem, ↓reduceIte, Nat.reduceEqDiff, Nat.reduceAdd, Nat.reduceMul, Nat.reduceSub, Int.reduceToNat, Nat.reduceBEq, s4, s3, s5, s6, s10, s11, s7, s8, s9, s12], by simp (disch := first | (simp only [go_sem, gb0, eq_self]; done) | omega | (simp only [gl1, gl2]; omega)) only [go_sem, ↓reduceIte, Nat.reduceEqDiff, Nat.reduceAdd, Nat.reduceMul, Nat.reduceSub, Int.reduceToNat, Nat.reduceBEq, s4, s3, s5, s6, s10, s11, s7, s8, s9, s12], by simp (disch := first | (simp only [go_sem, gb0, eq_self]; done) | omega | (simp only [gl1, gl2]; omega)) only [go_sem, ↓reduceIte, Nat.reduceEqDiff, Nat.reduceAdd, Nat.reduceMul, Nat.reduceSub, Int.reduceToNat, Nat.reduceBEq, s4, s3, s5, s6, s10, s11, s7, s8, s9, s12], by simp (disch := first | (simp only [go_sem, gb0, eq_self]; done) | omega | (simp only [gl1, gl2]; omega)) only [go_sem, ↓reduceIte, Nat.reduceEqDiff, Nat.reduceAdd, Nat.reduceMul, Nat.reduceSub, Int.reduceToNat, Nat.reduceBEq, s4, s3, s5, s6, s10, s11, s7, s8, s9, s12], by simp (disch := first | (simp only [go_sem, gb0, eq_self]; done) | omega | (simp only [gl1, gl2]; omega)) only [go_sem, ↓reduceIte, Nat.reduceEqDiff, Nat.reduceAdd, Nat.reduceMul, Nat.reduceSub, Int.reduceToNat, Nat.reduceBEq, s4, s3, s5, s6, s10, s11, s7, s8, s9, s12], by simp (disch := first | (simp only [go_sem, gb0, eq_self]; done) | omega | (simp only [gl1, gl2]; omega)) only [go_sem, ↓reduceIte, Nat.reduceEqDiff, Nat.reduceAdd, Nat.reduceMul, Nat.reduceSub, Int.reduceToNat, Nat.reduceBEq, s4, s3, s5, s6, s10, s11, s7, s8, s9, s12], by simp (disch := first | (simp only [go_sem, gb0, eq_self]; done) | omega | (simp only [gl1, gl2]; omega)) only [go_sem, ↓reduceIte, Nat.reduceEqDiff, Nat.reduceAdd, Nat.reduceMul, Nat.reduceSub, Int.reduceToNat, Nat.reduceBEq, s4, s3, s5, s6, s10, s11, s7, s8, s9, s12], by simp (disch := first | (simp only [go_sem, gb0, eq_self]; done) | omega | (simp only [gl1, gl2]; omega)) only [go_sem, ↓reduceIte, Nat.reduceEqDiff, Nat.reduceAdd, Nat.reduceMul, Nat.reduceSub, Int.reduceToNat, Nat.reduceBEq, s4, s3, s5, s6, s10, s11, s7, s8, s9, s12], by simp (disch := first | (simp only [go_sem, gb0, eq_self]; done) | omega | (simp only [gl1, gl2]; omega)) only [go_sem, ↓reduceIte, Nat.reduceEqDiff, Nat.reduceAdd, Nat.reduceMul, Nat.reduceSub, Int.reduceToNat, Nat.reduceBEq, s4, s3, s5, s6, s10, s11, s7, s8, s9, s12], by simp (disch := first | (simp only [go_sem, gb0, eq_self]; done) | omega | (simp only [gl1, gl2]; omega)) only [go_sem, ↓reduceIte, Nat.reduceEqDiff, Nat.reduceAdd, Nat.reduceMul, Nat.reduceSub, Int.reduceToNat, Nat.reduceBEq, s4, s3, s5, s6, s10, s11, s7, s8, s9, s12], by simp (disch := first | (simp only [go_sem, gb0, eq_self]; done) | omega | (simp only [gl1, gl2]; omega)) only [go_sem, ↓reduceIte, Nat.reduceEqDiff, Nat.reduceAdd, Nat.reduceMul, Nat.reduceSub, Int.reduceToNat, Nat.reduceBEq, hnx], by simp (disch := first | (simp only [go_sem, gb0, eq_self]; done) | omega | (simp only [gl1, gl2]; omega)) only [go_sem, ↓reduceIte, Nat.reduceEqDiff, Nat.reduceAdd, Nat.reduceMul, Nat.reduceSub, Int.reduceToNat, Nat.reduceBEq, b1], by simp (disch := first | (simp only [go_sem, gb0, eq_self]; done) | omega | (simp only [gl1, gl2]; omega)) only [go_sem, ↓reduceIte, Nat.reduceEqDiff, Nat.reduceAdd, Nat.reduceMul, Nat.reduceSub, Int.reduceToNat, Nat.reduceBEq, b3], by simp (disch := first | (simp only [go_sem, gb0, eq_self]; done) | omega | (simp only [gl1, gl2]; omega)) only [go_sem, ↓reduceIte, Nat.reduceEqDiff, Nat.reduceAdd, Nat.reduceMul, Nat.reduceSub, Int.reduceToNat, Nat.reduceBEq, b5], ⟨by simp (disch := first | (simp only [go_sem, gb0, eq_self]; done) | omega | (simp only [gl1, gl2]; omega)) only [go_sem, ↓reduceIte, Nat.reduceEqDiff, Nat.reduceAdd, Nat.reduceMul, Nat.reduceSub, Int.reduceToNat, Nat.reduceBEq, b6], by simp (disch := first | (simp only [go_sem, gb0, eq_self]; done) | omega | (simp only [gl1, gl2]; omega)) only [go_sem, ↓reduceIte, Nat.reduceEqDiff, Nat.reduceAdd, Nat.reduceMul, Nat.reduceSub, Int.reduceToNat, Nat.reduceBEq, b7], by simp (disch := first | (simp only [go_sem, gb0, eq_self]; done) | omega | (simp only [gl1, gl2]; omega)) only [go_sem, ↓reduceIte, Nat.reduceEqDiff, Nat.reduceAdd, Nat.reduceMul, Nat.reduceSub, Int.reduceToNat, Nat.reduceBEq, b8], by simp (disch := first | (simp only [go_sem, gb0, eq_self]; done) | omega | (simp only [gl1, gl2]; omega)) only [go_sem, ↓reduceIte, Nat.reduceEqDiff, Nat.reduceAdd, Nat.reduceMul, Nat.reduceSub, Int.reduceToNat, Nat.reduceBEq, b12]⟩, by simp (disch := first | (simp only [go_sem, gb0, eq_self]; done) | omega | (simp only [gl1, gl2]; omega)) only [go_sem, ↓reduceIte, Nat.reduceEqDiff, Nat.reduceAdd, Nat.reduceMul, Nat.reduceSub, Int.reduceToNat, Nat.reduceBEq, b9], by simp (disch := first | (simp only [go_sem, gb0, eq_self]; done) | omega | (simp only [gl1, gl2]; omega)) only [go_sem, ↓reduceIte, Nat.reduceEqDiff, Nat.reduceAdd, Nat.reduceMul, Nat.reduceSub, Int.reduceToNat, Nat.reduceBEq, b10], by simp (disch := first | (simp only [go_sem, gb0, eq_self]; done) | omega | (simp only [gl1, gl2]; omega)) only [go_sem, ↓reduceIte, Nat.reduceEqDiff, Nat.reduceAdd, Nat.reduceMul, Nat.reduceSub, Int.reduceToNat, Nat.reduceBEq, b11], by simp (disch := first | (simp only [go_sem, gb0, eq_self]; done) | omega | (simp only [gl1, gl2]; omega)) only [go_sem, ↓reduceIte, Nat.reduceEqDiff, Nat.reduceAdd, Nat.reduceMul, Nat.reduceSub, Int.reduceToNat, Nat.reduceBEq, b13]⟩ ?_
  clear hnx b1 b3 b5 b6 b7 b8 b12 b9 b10 b11 b13 s4 s3 s5 s6 s7 s8 s9 s10 s11 s12 h
  rintro st h ⟨s4, s3, s5, s6, s10, s11, s7, s8, s9, s12, hnx, b1, b3, b5, ⟨b6, b7, b8, b12⟩, b9, b10, b11, b13⟩
  simp (disch := first | (simp only [go_sem, gb0, eq_self]; done) | omega | (simp only [gl1, gl2]; omega)) only [go_sem, ↓reduceIte, Nat.reduceEqDiff, Nat.reduceAdd, Nat.reduceMul, Nat.reduceSub, Int.reduceToNat, Nat.reduceBEq, s4, s3, s5, s6, s10, s11, s7, s8, s9, s12, hnx, b1, b13, b11, hjn, hjn', k30, ← hc', ↓stopY 8 false]
  refine WPy_go (fun st h => st 4 = .bool false ∧ st 3 = .ptr 1 0 ∧ st 5 = .ptr 5 0 ∧ st 6 = I n ∧ st 10 = .ptr 12 0 ∧ st 11 = .ptr 13 0 ∧ st 7 = LP B ∧ st 8 = LI sl ∧ st 9 = I 0 ∧ st 12 = I j ∧ Mem3 n u w nx pay cost (vecA (setV (fun i => nth pay i) j p') n) (vecA (setV (fun i => nth cost i) j c') n) h)
    ⟨by simp (disch := first | (simp only [go_sem, gb0, eq_self]; done) | omega | (simp only [gl1, gl2]; omega)) only [go_sem, ↓reduceIte, Nat.reduceEqDiff, Nat.reduceAdd, Nat.reduceMul, Nat.reduceSub, Int.reduceToNat, Nat.reduceBEq, s4, s3, s5, s6, s10, s11, s7, s8, s9, s12], by simp (disch := first | (simp only [go_sem, gb0, eq_self]; done) | omega | (simp only [gl1, gl2]; omega)) only [go_sem, ↓reduceIte, Nat.reduceEqDiff, Nat.reduceAdd, Nat.reduceMul, Nat.reduceSub, Int.reduceToNat, Nat.reduceBEq, s4, s3, s5, s6, s10, s11, s7, s8, s9, s12], by simp (disch := first | (simp only [go_sem, gb0, eq_self]; done) | omega | (simp only [gl1, gl2]; omega)) only [go_sem, ↓reduceIte, Nat.reduceEqDiff, Nat.reduceAdd, Nat.reduceMul, Nat.reduceSub, Int.reduceToNat, Nat.reduceBEq, s4, s3, s5, s6, s10, s11, s7, s8, s9, s12], by simp (disch := first | (simp only [go_sem, gb0, eq_self]; done) | omega | (simp only [gl1, gl2]; omega)) only [go_sem, ↓reduceIte, Nat.reduceEqDiff, Nat.reduceAdd, Nat.reduceMul, Nat.reduceSub, Int.reduceToNat, Nat.reduceBEq, s4, s3, s5, s6, s10, s11, s7, s8, s9, s12], by simp (disch := first | (simp only [go_sem, gb0, eq_self]; done) | omega | (simp only [gl1, gl2]; omega)) only [go_sem, ↓reduceIte, Nat.reduceEqDiff, Nat.reduceAdd, Nat.reduceMul, Nat.reduceSub, Int.reduceToNat, Nat.reduceBEq, s4, s3, s5, s6, s10, s11, s7, s8, s9, s12], by simp (disch := first | (simp only [go_sem, gb0, eq_self]; done) | omega | (simp only [gl1, gl2]; omega)) only [go_sem, ↓reduceIte, Nat.reduceEqDiff, Nat.reduceAdd, Nat.reduceMul, Nat.reduceSub, Int.reduceToNat, Nat.reduceBEq, s4, s3, s5, s6, s10, s11, s7, s8, s9, s12], by simp (disch := first | (simp only [go_sem, gb0, eq_self]; done) | omega | (simp only [gl1, gl2]; omega)) only [go_sem, ↓reduceIte, Nat.reduceEqDiff, Nat.reduceAdd, Nat.reduceMul, Nat.reduceSub, Int.reduceToNat, Nat.reduceBEq, s4, s3, s5, s6, s10, s11, s7, s8, s9, s12], by simp (disch := first | (simp only [go_sem, gb0, eq_self]; done) | omega | (simp only [gl1, gl2]; omega)) only [go_sem, ↓reduceIte, Nat.reduceEqDiff, Nat.reduceAdd, Nat.reduceMul, Nat.reduceSub, Int.reduceToNat, Nat.reduceBEq, s4, s3, s5, s6, s10, s11, s7, s8, s9, s12], by simp (disch := first | (simp only [go_sem, gb0, eq_self]; done) | omega | (simp only [gl1, gl2]; omega)) only [go_sem, ↓reduceIte, Nat.reduceEqDiff, Nat.reduceAdd, Nat.reduceMul, Nat.reduceSub, Int.reduceToNat, Nat.reduceBEq, s4, s3, s5, s6, s10, s11, s7, s8, s9, s12], by simp (disch := first | (simp only [go_sem, gb0, eq_self]; done) | omega | (simp only [gl1, gl2]; omega)) only [go_sem, ↓reduceIte, Nat.reduceEqDiff, Nat.reduceAdd, Nat.reduceMul, Nat.reduceSub, Int.reduceToNat, Nat.reduceBEq, s4, s3, s5, s6, s10, s11, s7, s8, s9, s12], by simp (disch := first | (simp only [go_sem, gb0, eq_self]; done) | omega | (simp only [gl1, gl2]; omega)) only [go_sem, ↓reduceIte, Nat.reduceEqDiff, Nat.reduceAdd, Nat.reduceMul, Nat.reduceSub, Int.reduceToNat, Nat.reduceBEq, hnx], by simp (disch := first | (simp only [go_sem, gb0, eq_self]; done) | omega | (simp only [gl1, gl2]; omega)) only [go_sem, ↓reduceIte, Nat.reduceEqDiff, Nat.reduceAdd, Nat.reduceMul, Nat.reduceSub, Int.reduceToNat, Nat.reduceBEq, b1], by simp (disch := first | (simp only [go_sem, gb0, eq_self]; done) | omega | (simp only [gl1, gl2]; omega)) only [go_sem, ↓reduceIte, Nat.reduceEqDiff, Nat.reduceAdd, Nat.reduceMul, Nat.reduceSub, Int.reduceToNat, Nat.reduceBEq, b3], by simp (disch := first | (simp only [go_sem, gb0, eq_self]; done) | omega | (simp only [gl1, gl2]; omega)) only [go_sem, ↓reduceIte, Nat.reduceEqDiff, Nat.reduceAdd, Nat.reduceMul, Nat.reduceSub, Int.reduceToNat, Nat.reduceBEq, b5], ⟨by simp (disch := first | (simp only [go_sem, gb0, eq_self]; done) | omega | (simp only [gl1, gl2]; omega)) only [go_sem, ↓reduceIte, Nat.reduceEqDiff, Nat.reduceAdd, Nat.reduceMul, Nat.reduceSub, Int.reduceToNat, Nat.reduceBEq, b6], by simp (disch := first | (simp only [go_sem, gb0, eq_self]; done) | omega | (simp only [gl1, gl2]; omega)) only [go_sem, ↓reduceIte, Nat.reduceEqDiff, Nat.reduceAdd, Nat.reduceMul, Nat.reduceSub, Int.reduceToNat, Nat.reduceBEq, b7], by simp (disch := first | (simp only [go_sem, gb0, eq_self]; done) | omega | (simp only [gl1, gl2]; omega)) only [go_sem, ↓reduceIte, Nat.reduceEqDiff, Nat.reduceAdd, Nat.reduceMul, Nat.reduceSub, Int.reduceToNat, Nat.reduceBEq, b8], by simp (disch := first | (simp only [go_sem, gb0, eq_self]; done) | omega | (simp only [gl1, gl2]; omega)) only [go_sem, ↓reduceIte, Nat.reduceEqDiff, Nat.reduceAdd, Nat.reduceMul, Nat.reduceSub, Int.reduceToNat, Nat.reduceBEq, b12]⟩, by simp (disch := first | (simp only [go_sem, gb0, eq_self]; done) | omega | (simp only [gl1, gl2]; omega)) only [go_sem, ↓reduceIte, Nat.reduceEqDiff, Nat.reduceAdd, Nat.reduceMul, Nat.reduceSub, Int.reduceToNat, Nat.reduceBEq, b9], by simp (disch := first | (simp only [go_sem, gb0, eq_self]; done) | omega | (simp only [gl1, gl2]; omega)) only [go_sem, ↓reduceIte, Nat.reduceEqDiff, Nat.reduceAdd, Nat.reduceMul, Nat.reduceSub, Int.reduceToNat, Nat.reduceBEq, b10], by simp (disch := first | (simp only [go_sem, gb0, eq_self]; done) | omega | (simp only [gl1, gl2]; omega)) only [go_sem, ↓reduceIte, Nat.reduceEqDiff, Nat.reduceAdd, Nat.reduceMul, Nat.reduceSub, Int.reduceToNat, Nat.reduceBEq, b11], by simp (disch := first | (simp only [go_sem, gb0, eq_self]; done) | omega | (simp only [gl1, gl2]; omega)) only [go_sem, ↓reduceIte, Nat.reduceEqDiff, Nat.reduceAdd, Nat.reduceMul, Nat.reduceSub, Int.reduceToNat, Nat.reduceBEq, b13]⟩ ?_
  clear hnx b1 b3 b5 b6 b7 b8 b12 b9 b10 b11 b13 s4 s3 s5 s6 s7 s8 s9 s10 s11 s12 h
  rintro st h ⟨s4, s3, s5, s6, s10, s11, s7, s8, s9, s12, hnx, b1, b3, b5, ⟨b6, b7, b8, b12⟩, b9, b10, b11, b13⟩
  obtain ⟨P', hP'⟩ : ∃ P', P' = (List.range n).map (setV (fun i => nth pay i) j p') := ⟨_, rfl⟩
  obtain ⟨C', hC'⟩ : ∃ C', C' = (List.range n).map (setV (fun i => nth cost i) j c') := ⟨_, rfl⟩
  have lP' : P'.length = n := by rw [hP']; simp
  have lC' : C'.length = n := by rw [hC']; simp
  have nP' : ∀ i, i < n → nth P' i = setV (fun i => nth pay i) j p' i := fun i hi => by rw [hP']; exact nth_rng' _ hi
  have nC' : ∀ i, i < n → nth C' i = setV (fun i => nth cost i) j c' i := fun i hi => by rw [hC']; exact nth_rng' _ hi
  have qP : ∀ i, i < nx.length → (0 ≤ nth P' i ∧ nth P' i ≤ 1000) ∧ nth pay i ≤ nth P' i := fun i hi => by
    have := C.pb hi
    rw [nP' i (by omega)]
    unfold setV
    split
    · rename_i e; subst e; omega
    · dsimp only; omega
  have qC : ∀ i, i < nx.length → (0 ≤ nth C' i ∧ nth C' i ≤ 100) ∧ nth C' i ≤ nth cost i := fun i hi => by
    have := C.cb hi
    rw [nC' i (by omega)]
    unfold setV
    split
    · rename_i e; subst e; omega
    · dsimp only; omega
  have c2 : chB nx P' cost = true := chB_of_parts c1 (by omega) (by omega) (fun i hi => (qP i hi).1) (fun i hi => C.cb hi)
  have c3 : chB nx pay C' = true := chB_of_parts c1 (by omega) (by omega) (fun i hi => C.pb hi) (fun i hi => (qC i hi).1)
  have hm2 := hmore P' cost c2 (fun i hi => (qP i hi).2) (fun i hi => Int.le_refl _)
  have hm3 := hmore pay C' c3 (fun i hi => Int.le_refl _) (fun i hi => (qC i hi).2)
  have b7' : h.bl 7 = some (.cells false true (P'.flatMap (e1 I))) := by rw [b7, vecA_flat, hP']
  have b11' : h.bl 11 = some (.cells false true (C'.flatMap (e1 I))) := by rw [b11, vecA_flat, hC']
  have r2 : bstR nx P' cost (bestL nx P' cost) = .tup [LP (bestL nx P' cost), LI (stopsL nx.length P' (bestL nx P' cost) nx.length), I 0] := by rw [bstR, c2]; rfl
  have r3 : bstR nx pay C' (bestL nx pay C') = .tup [LP (bestL nx pay C'), LI (stopsL nx.length pay (bestL nx pay C') nx.length), I 0] := by rw [bstR, c3]; rfl
  have kb := fun h h' K => ConW_any (h := h) (h' := h') (K := K) (toO (by decide) (f16_con nx P' cost (chB_okN c2))) (by rw [r2]; rfl) (by rw [r2]; rfl)
  have kc := fun h h' K => ConW_any (h := h) (h' := h') (K := K) (toO (by decide) (f16_con nx pay C' (chB_okN c3))) (by rw [r3]; rfl) (by rw [r3]; rfl)
  rw [r2] at kb
  rw [r3] at kc
  have l2 := bestL_len (okC.of c2)
  have l3 := bestL_len (okC.of c3)
  obtain ⟨x2, _, hx2, _, hxe2⟩ := best_is (okC.of c2)
  obtain ⟨x3, _, hx3, _, hxe3⟩ := best_is (okC.of c3)
  have v2 := val_small (okC.of c2) (by omega) hx2
  have v3 := val_small (okC.of c3) (by omega) hx3
  rw [← hxe2] at v2
  rw [← hxe3] at v3
  rw [← hn] at l2 l3 hm2 hm3
  generalize stopsL nx.length P' (bestL nx P' cost) nx.length = sl2 at *
  generalize stopsL nx.length pay (bestL nx pay C') nx.length = sl3 at *
  generalize bestL nx P' cost = B2 at *
  generalize bestL nx pay C' = B3 at *
  have hse4 := seal_own3 (R := nx) (P := P') (C := cost) b6 b7' b8 (by decide) (by decide) (by decide)
  rw [lP', hlc, ← hn] at hse4
  simp (disch := first | (simp only [go_sem, gb0, eq_self]; done) | omega | (simp only [gl1, gl2]; omega)) only [go_sem, ↓reduceIte, Nat.reduceEqDiff, Nat.reduceAdd, Nat.reduceMul, Nat.reduceSub, Int.reduceToNat, Nat.reduceBEq, s4, s3, s5, s6, s10, s11, s7, s8, s9, s12, b12, hse4, kb, hi3, ↓stopY 9 false]
  refine WPy_go (fun st h => (st 4 = .bool false ∧ st 3 = .ptr 1 0 ∧ st 5 = .ptr 5 0 ∧ st 6 = I n ∧ st 10 = .ptr 12 0 ∧ st 11 = .ptr 13 0 ∧ st 7 = LP B ∧ st 8 = LI sl ∧ st 9 = I 0 ∧ st 12 = I j ∧ st 13 = LP B2 ∧ st 15 = I 0) ∧ h.nx = 14 ∧ h.bl 3 = some (.cells true true (pay.flatMap (e1 I))) ∧ h.bl 5 = some (.cells false false [.sl 2 0 n 1, .sl 3 0 n 1, .sl 4 0 n 1]) ∧ h.bl 9 = some (.cells false true (nx.flatMap (e1 LI))) ∧ h.bl 10 = some (.cells false true (pay.flatMap (e1 I))) ∧ h.bl 11 = some (.cells false true (C'.flatMap (e1 I))) ∧ h.bl 13 = some (.cells false false [.sl 9 0 n 1, .sl 10 0 n 1, .sl 11 0 n 1]))
    ⟨⟨by simp (disch := first | (simp only [go_sem, gb0, eq_self]; done) | omega | (simp only [gl1, gl2]; omega)) only [go_sem, ↓reduceIte, Nat.reduceEqDiff, Nat.reduceAdd, Nat.reduceMul, Nat.reduceSub, Int.reduceToNat, Nat.reduceBEq, s4, s3, s5, s6, s10, s11, s7, s8, s9, s12], by simp (disch := first | (simp only [go_sem, gb0, eq_self]; done) | omega | (simp only [gl1, gl2]; omega)) only [go_sem, ↓reduceIte, Nat.reduceEqDiff, Nat.reduceAdd, Nat.reduceMul, Nat.reduceSub, Int.reduceToNat, Nat.reduceBEq, s4, s3, s5, s6, s10, s11, s7, s8, s9, s12], by simp (disch := first | (simp only [go_sem, gb0, eq_self]; done) | omega | (simp only [gl1, gl2]; omega)) only [go_sem, ↓reduceIte, Nat.reduceEqDiff, Nat.reduceAdd, Nat.reduceMul, Nat.reduceSub, Int.reduceToNat, Nat.reduceBEq, s4, s3, s5, s6, s10, s11, s7, s8, s9, s12], by simp (disch := first | (simp only [go_sem, gb0, eq_self]; done) | omega | (simp only [gl1, gl2]; omega)) only [go_sem, ↓reduceIte, Nat.reduceEqDiff, Nat.reduceAdd, Nat.reduceMul, Nat.reduceSub, Int.reduceToNat, Nat.reduceBEq, s4, s3, s5, s6, s10, s11, s7, s8, s9, s12], by simp (disch := first | (simp only [go_sem, gb0, eq_self]; done) | omega | (simp only [gl1, gl2]; omega)) only [go_sem, ↓reduceIte, Nat.reduceEqDiff, Nat.reduceAdd, Nat.reduceMul, Nat.reduceSub, Int.reduceToNat, Nat.reduceBEq, s4, s3, s5, s6, s10, s11, s7, s8, s9, s12], by simp (disch := first | (simp only [go_sem, gb0, eq_self]; done) | omega | (simp only [gl1, gl2]; omega)) only [go_sem, ↓reduceIte, Nat.reduceEqDiff, Nat.reduceAdd, Nat.reduceMul, Nat.reduceSub, Int.reduceToNat, Nat.reduceBEq, s4, s3, s5, s6, s10, s11, s7, s8, s9, s12], by simp (disch := first | (simp only [go_sem, gb0, eq_self]; done) | omega | (simp only [gl1, gl2]; omega)) only [go_sem, ↓reduceIte, Nat.reduceEqDiff, Nat.reduceAdd, Nat.reduceMul, Nat.reduceSub, Int.reduceToNat, Nat.reduceBEq, s4, s3, s5, s6, s10, s11, s7, s8, s9, s12], by simp (disch := first | (simp only [go_sem, gb0, eq_self]; done) | omega | (simp only [gl1, gl2]; omega)) only [go_sem, ↓reduceIte, Nat.reduceEqDiff, Nat.reduceAdd, Nat.reduceMul, Nat.reduceSub, Int.reduceToNat, Nat.reduceBEq, s4, s3, s5, s6, s10, s11, s7, s8, s9, s12], by simp (disch := first | (simp only [go_sem, gb0, eq_self]; done) | omega | (simp only [gl1, gl2]; omega)) only [go_sem, ↓reduceIte, Nat.reduceEqDiff, Nat.reduceAdd, Nat.reduceMul, Nat.reduceSub, Int.reduceToNat, Nat.reduceBEq, s4, s3, s5, s6, s10, s11, s7, s8, s9, s12], by simp (disch := first | (simp only [go_sem, gb0, eq_self]; done) | omega | (simp only [gl1, gl2]; omega)) only [go_sem, ↓reduceIte, Nat.reduceEqDiff, Nat.reduceAdd, Nat.reduceMul, Nat.reduceSub, Int.reduceToNat, Nat.reduceBEq, s4, s3, s5, s6, s10, s11, s7, s8, s9, s12], by simp (disch := first | (simp only [go_sem, gb0, eq_self]; done) | omega | (simp only [gl1, gl2]; omega)) only [go_sem, ↓reduceIte, Nat.reduceEqDiff, Nat.reduceAdd, Nat.reduceMul, Nat.reduceSub, Int.reduceToNat, Nat.reduceBEq], by simp (disch := first | (simp only [go_sem, gb0, eq_self]; done) | omega | (simp only [gl1, gl2]; omega)) only [go_sem, ↓reduceIte, Nat.reduceEqDiff, Nat.reduceAdd, Nat.reduceMul, Nat.reduceSub, Int.reduceToNat, Nat.reduceBEq]⟩, by simp (disch := first | (simp only [go_sem, gb0, eq_self]; done) | omega | (simp only [gl1, gl2]; omega)) only [go_sem, ↓reduceIte, Nat.reduceEqDiff, Nat.reduceAdd, Nat.reduceMul, Nat.reduceSub, Int.reduceToNat, Nat.reduceBEq, hnx], by simp (disch := first | (simp only [go_sem, gb0, eq_self]; done) | omega | (simp only [gl1, gl2]; omega)) only [go_sem, ↓reduceIte, Nat.reduceEqDiff, Nat.reduceAdd, Nat.reduceMul, Nat.reduceSub, Int.reduceToNat, Nat.reduceBEq, b3], by simp (disch := first | (simp only [go_sem, gb0, eq_self]; done) | omega | (simp only [gl1, gl2]; omega)) only [go_sem, ↓reduceIte, Nat.reduceEqDiff, Nat.reduceAdd, Nat.reduceMul, Nat.reduceSub, Int.reduceToNat, Nat.reduceBEq, b5], by simp (disch := first | (simp only [go_sem, gb0, eq_self]; done) | omega | (simp only [gl1, gl2]; omega)) only [go_sem, ↓reduceIte, Nat.reduceEqDiff, Nat.reduceAdd, Nat.reduceMul, Nat.reduceSub, Int.reduceToNat, Nat.reduceBEq, b9], by simp (disch := first | (simp only [go_sem, gb0, eq_self]; done) | omega | (simp only [gl1, gl2]; omega)) only [go_sem, ↓reduceIte, Nat.reduceEqDiff, Nat.reduceAdd, Nat.reduceMul, Nat.reduceSub, Int.reduceToNat, Nat.reduceBEq, b10], by simp (disch := first | (simp only [go_sem, gb0, eq_self]; done) | omega | (simp only [gl1, gl2]; omega)) only [go_sem, ↓reduceIte, Nat.reduceEqDiff, Nat.reduceAdd, Nat.reduceMul, Nat.reduceSub, Int.reduceToNat, Nat.reduceBEq, b11'], by simp (disch := first | (simp only [go_sem, gb0, eq_self]; done) | omega | (simp only [gl1, gl2]; omega)) only [go_sem, ↓reduceIte, Nat.reduceEqDiff, Nat.reduceAdd, Nat.reduceMul, Nat.reduceSub, Int.reduceToNat, Nat.reduceBEq, b13]⟩ ?_
  clear hnx b1 b3 b5 b6 b7 b8 b12 b9 b10 b11 b13 b7' b11' hse4 s4 s3 s5 s6 s7 s8 s9 s10 s11 s12 h
  rintro st h ⟨⟨s4, s3, s5, s6, s10, s11, s7, s8, s9, s12, s13, s15⟩, hnx, b3, b5, b9, b10, b11, b13⟩
  have hse5 := seal_own3 (R := nx) (P := pay) (C := C') b9 b10 b11 (by decide) (by decide) (by decide)
  rw [lC', hlp, ← hn] at hse5
  simp (disch := first | (simp only [go_sem, gb0, eq_self]; done) | omega | (simp only [gl1, gl2]; omega)) only [go_sem, ↓reduceIte, Nat.reduceEqDiff, Nat.reduceAdd, Nat.reduceMul, Nat.reduceSub, Int.reduceToNat, Nat.reduceBEq, s4, s3, s5, s6, s10, s11, s7, s8, s9, s12, s13, s15, b13, hse5, kc, hi3, ↓stopY 10 false]
  refine WPy_go (fun st h => (st 4 = .bool false ∧ st 5 = .ptr 5 0 ∧ st 6 = I n ∧ st 7 = LP B ∧ st 8 = LI sl ∧ st 13 = LP B2 ∧ st 16 = LP B3 ∧ st 9 = I 0 ∧ st 15 = I 0 ∧ st 18 = I 0) ∧ h.nx = 14 ∧ h.bl 3 = some (.cells true true (pay.flatMap (e1 I))) ∧ h.bl 5 = some (.cells false false [.sl 2 0 n 1, .sl 3 0 n 1, .sl 4 0 n 1]))
    ⟨⟨by simp (disch := first | (simp only [go_sem, gb0, eq_self]; done) | omega | (simp only [gl1, gl2]; omega)) only [go_sem, ↓reduceIte, Nat.reduceEqDiff, Nat.reduceAdd, Nat.reduceMul, Nat.reduceSub, Int.reduceToNat, Nat.reduceBEq, s4, s3, s5, s6, s10, s11, s7, s8, s9, s12, s13], by simp (disch := first | (simp only [go_sem, gb0, eq_self]; done) | omega | (simp only [gl1, gl2]; omega)) only [go_sem, ↓reduceIte, Nat.reduceEqDiff, Nat.reduceAdd, Nat.reduceMul, Nat.reduceSub, Int.reduceToNat, Nat.reduceBEq, s4, s3, s5, s6, s10, s11, s7, s8, s9, s12, s13], by simp (disch := first | (simp only [go_sem, gb0, eq_self]; done) | omega | (simp only [gl1, gl2]; omega)) only [go_sem, ↓reduceIte, Nat.reduceEqDiff, Nat.reduceAdd, Nat.reduceMul, Nat.reduceSub, Int.reduceToNat, Nat.reduceBEq, s4, s3, s5, s6, s10, s11, s7, s8, s9, s12, s13], by simp (disch := first | (simp only [go_sem, gb0, eq_self]; done) | omega | (simp only [gl1, gl2]; omega)) only [go_sem, ↓reduceIte, Nat.reduceEqDiff, Nat.reduceAdd, Nat.reduceMul, Nat.reduceSub, Int.reduceToNat, Nat.reduceBEq, s4, s3, s5, s6, s10, s11, s7, s8, s9, s12, s13], by simp (disch := first | (simp only [go_sem, gb0, eq_self]; done) | omega | (simp only [gl1, gl2]; omega)) only [go_sem, ↓reduceIte, Nat.reduceEqDiff, Nat.reduceAdd, Nat.reduceMul, Nat.reduceSub, Int.reduceToNat, Nat.reduceBEq, s4, s3, s5, s6, s10, s11, s7, s8, s9, s12, s13], by simp (disch := first | (simp only [go_sem, gb0, eq_self]; done) | omega | (simp only [gl1, gl2]; omega)) only [go_sem, ↓reduceIte, Nat.reduceEqDiff, Nat.reduceAdd, Nat.reduceMul, Nat.reduceSub, Int.reduceToNat, Nat.reduceBEq, s4, s3, s5, s6, s10, s11, s7, s8, s9, s12, s13], by simp (disch := first | (simp only [go_sem, gb0, eq_self]; done) | omega | (simp only [gl1, gl2]; omega)) only [go_sem, ↓reduceIte, Nat.reduceEqDiff, Nat.reduceAdd, Nat.reduceMul, Nat.reduceSub, Int.reduceToNat, Nat.reduceBEq, s4, s3, s5, s6, s10, s11, s7, s8, s9, s12, s13], by simp (disch := first | (simp only [go_sem, gb0, eq_self]; done) | omega | (simp only [gl1, gl2]; omega)) only [go_sem, ↓reduceIte, Nat.reduceEqDiff, Nat.reduceAdd, Nat.reduceMul, Nat.reduceSub, Int.reduceToNat, Nat.reduceBEq, s9], by simp (disch := first | (simp only [go_sem, gb0, eq_self]; done) | omega | (simp only [gl1, gl2]; omega)) only [go_sem, ↓reduceIte, Nat.reduceEqDiff, Nat.reduceAdd, Nat.reduceMul, Nat.reduceSub, Int.reduceToNat, Nat.reduceBEq, s15], by simp (disch := first | (simp only [go_sem, gb0, eq_self]; done) | omega | (simp only [gl1, gl2]; omega)) only [go_sem, ↓reduceIte, Nat.reduceEqDiff, Nat.reduceAdd, Nat.reduceMul, Nat.reduceSub, Int.reduceToNat, Nat.reduceBEq]⟩, by simp (disch := first | (simp only [go_sem, gb0, eq_self]; done) | omega | (simp only [gl1, gl2]; omega)) only [go_sem, ↓reduceIte, Nat.reduceEqDiff, Nat.reduceAdd, Nat.reduceMul, Nat.reduceSub, Int.reduceToNat, Nat.reduceBEq, hnx], by simp (disch := first | (simp only [go_sem, gb0, eq_self]; done) | omega | (simp only [gl1, gl2]; omega)) only [go_sem, ↓reduceIte, Nat.reduceEqDiff, Nat.reduceAdd, Nat.reduceMul, Nat.reduceSub, Int.reduceToNat, Nat.reduceBEq, b3], by simp (disch := first | (simp only [go_sem, gb0, eq_self]; done) | omega | (simp only [gl1, gl2]; omega)) only [go_sem, ↓reduceIte, Nat.reduceEqDiff, Nat.reduceAdd, Nat.reduceMul, Nat.reduceSub, Int.reduceToNat, Nat.reduceBEq, b5]⟩ ?_
  clear hnx b3 b5 b9 b10 b11 b13 hse5 s4 s3 s5 s6 s7 s8 s9 s10 s11 s12 s13 s15 h
  rintro st h ⟨⟨s4, s5, s6, s7, s8, s13, s16, s9, s15, s18⟩, hnx, b3, b5⟩
  have k19a := fun h h' K => ConW_num (h := h) (h' := h') (K := K) (toO (by decide) (liftX (by decide) (f19_con B (by omega) v1))) rfl
  have k19b := fun h h' K => ConW_num (h := h) (h' := h') (K := K) (toO (by decide) (liftX (by decide) (f19_con B2 (by omega) v2))) rfl
  have k19c := fun h h' K => ConW_num (h := h) (h' := h') (K := K) (toO (by decide) (liftX (by decide) (f19_con B3 (by omega) v3))) rfl
  rw [l1] at k19a
  rw [l2] at k19b
  rw [l3] at k19c
  rw [fP] at b3
  simp (disch := first | (simp only [go_sem, gb0, eq_self]; done) | omega | (simp only [gl1, gl2]; omega)) only [go_sem, ↓reduceIte, Nat.reduceEqDiff, Nat.reduceAdd, Nat.reduceMul, Nat.reduceSub, Int.reduceToNat, Nat.reduceBEq, s4, s5, s6, s7, s8, s13, s16, s9, s15, s18, k19a, k19b, k19c]
  refine WP_cut (fun st h => st 4 = .bool false ∧ st 5 = .ptr 5 0 ∧ st 6 = I n ∧ st 7 = LP B ∧ st 8 = LI sl ∧ st 13 = LP B2 ∧ st 16 = LP B3 ∧ ∃ t : Nat, st 19 = I t ∧ t < n ∧ ∀ i, i < n → nth pay i ≤ nth pay t) ?_ ?_
  · refine WP_for 20 n (fun i st h => st 4 = .bool false ∧ st 5 = .ptr 5 0 ∧ st 6 = I n ∧ st 7 = LP B ∧ st 8 = LI sl ∧ st 13 = LP B2 ∧ st 16 = LP B3 ∧ h.nx = 14 ∧ h.bl 3 = some (.cells true true (vecA (fun j => nth pay j) n)) ∧ h.bl 5 = some (.cells false false [.sl 2 0 n 1, .sl 3 0 n 1, .sl 4 0 n 1]) ∧ ∃ t : Nat, st 19 = I t ∧ t < n ∧ ∀ k, k < i → nth pay k ≤ nth pay t) (by simp (disch := first | (simp only [go_sem, gb0, eq_self]; done) | omega | (simp only [gl1, gl2]; omega)) only [go_sem, ↓reduceIte, Nat.reduceEqDiff, Nat.reduceAdd, Nat.reduceMul, Nat.reduceSub, Int.reduceToNat, Nat.reduceBEq])
      ⟨by simp (disch := first | (simp only [go_sem, gb0, eq_self]; done) | omega | (simp only [gl1, gl2]; omega)) only [go_sem, ↓reduceIte, Nat.reduceEqDiff, Nat.reduceAdd, Nat.reduceMul, Nat.reduceSub, Int.reduceToNat, Nat.reduceBEq, s4, s5, s6, s7, s8, s13, s16], by simp (disch := first | (simp only [go_sem, gb0, eq_self]; done) | omega | (simp only [gl1, gl2]; omega)) only [go_sem, ↓reduceIte, Nat.reduceEqDiff, Nat.reduceAdd, Nat.reduceMul, Nat.reduceSub, Int.reduceToNat, Nat.reduceBEq, s4, s5, s6, s7, s8, s13, s16], by simp (disch := first | (simp only [go_sem, gb0, eq_self]; done) | omega | (simp only [gl1, gl2]; omega)) only [go_sem, ↓reduceIte, Nat.reduceEqDiff, Nat.reduceAdd, Nat.reduceMul, Nat.reduceSub, Int.reduceToNat, Nat.reduceBEq, s4, s5, s6, s7, s8, s13, s16], by simp (disch := first | (simp only [go_sem, gb0, eq_self]; done) | omega | (simp only [gl1, gl2]; omega)) only [go_sem, ↓reduceIte, Nat.reduceEqDiff, Nat.reduceAdd, Nat.reduceMul, Nat.reduceSub, Int.reduceToNat, Nat.reduceBEq, s4, s5, s6, s7, s8, s13, s16], by simp (disch := first | (simp only [go_sem, gb0, eq_self]; done) | omega | (simp only [gl1, gl2]; omega)) only [go_sem, ↓reduceIte, Nat.reduceEqDiff, Nat.reduceAdd, Nat.reduceMul, Nat.reduceSub, Int.reduceToNat, Nat.reduceBEq, s4, s5, s6, s7, s8, s13, s16], by simp (disch := first | (simp only [go_sem, gb0, eq_self]; done) | omega | (simp only [gl1, gl2]; omega)) only [go_sem, ↓reduceIte, Nat.reduceEqDiff, Nat.reduceAdd, Nat.reduceMul, Nat.reduceSub, Int.reduceToNat, Nat.reduceBEq, s4, s5, s6, s7, s8, s13, s16], by simp (disch := first | (simp only [go_sem, gb0, eq_self]; done) | omega | (simp only [gl1, gl2]; omega)) only [go_sem, ↓reduceIte, Nat.reduceEqDiff, Nat.reduceAdd, Nat.reduceMul, Nat.reduceSub, Int.reduceToNat, Nat.reduceBEq, s4, s5, s6, s7, s8, s13, s16], hnx, b3, b5, 0, (by simp (disch := first | (simp only [go_sem, gb0, eq_self]; done) | omega | (simp only [gl1, gl2]; omega)) only [go_sem, ↓reduceIte, Nat.reduceEqDiff, Nat.reduceAdd, Nat.reduceMul, Nat.reduceSub, Int.reduceToNat, Nat.reduceBEq]; rfl), by omega, fun k hk => by omega⟩ ?_
    rintro i st h hi s20 ⟨s4, s5, s6, s7, s8, s13, s16, hnx, b3, b5, t, s19, htn, hall⟩
    by_cases hlt : i < n
    case neg =>
      obtain rfl : i = n := by omega
      simp (disch := first | (simp only [go_sem, gb0, eq_self]; done) | omega | (simp only [gl1, gl2]; omega)) only [go_sem, ↓reduceIte, Nat.reduceEqDiff, Nat.reduceAdd, Nat.reduceMul, Nat.reduceSub, Int.reduceToNat, Nat.reduceBEq, s4, s5, s6, s7, s8, s13, s16, s20, hlt]
      exact ⟨t, s19, htn, hall⟩
    have hlt' : (i : Int) < n := by omega
    have htn' : (t : Int) < n := by omega
    have e2 := hm2 i hlt
    have e3 := hm3 i hlt
    obtain ⟨⟨d1, d2⟩, d3, d4⟩ := v1 i (by omega)
    obtain ⟨⟨u1, u2⟩, u3, u4⟩ := v2 i (by omega)
    obtain ⟨⟨w1, w2⟩, w3, w4⟩ := v3 i (by omega)
    have q1 := mul_bd3 (a := (nth B2 i).1) (b := (nth B i).2) (A := 1073741824) (B := 131072) (by omega) (by omega)
    have q2 := mul_bd3 (a := (nth B i).1) (b := (nth B2 i).2) (A := 1073741824) (B := 131072) (by omega) (by omega)
    have q3 := mul_bd3 (a := (nth B3 i).1) (b := (nth B i).2) (A := 1073741824) (B := 131072) (by omega) (by omega)
    have q4 := mul_bd3 (a := (nth B i).1) (b := (nth B3 i).2) (A := 1073741824) (B := 131072) (by omega) (by omega)
    have k20a := fun h h' K => ConW_num (h := h) (h' := h') (K := K) (toO (by decide) (liftX (by decide) (f20_con (nth B2 i) (nth B i) (by simp only [big]; omega) (by simp only [big]; omega)))) rfl
    have k20b := fun h h' K => ConW_num (h := h) (h' := h') (K := K) (toO (by decide) (liftX (by decide) (f20_con (nth B3 i) (nth B i) (by simp only [big]; omega) (by simp only [big]; omega)))) rfl
    rw [e2] at k20a
    rw [e3] at k20b
    have g1 : i < B.length := by omega
    have g2 : (i : Int) < B.length := by omega
    have g3 : i < B2.length := by omega
    have g4 : (i : Int) < B2.length := by omega
    have g5 : i < B3.length := by omega
    have g6 : (i : Int) < B3.length := by omega
    by_cases hgt : nth pay t < nth pay i
    · simp (disch := first | (simp only [go_sem, gb0, eq_self]; done) | omega | (simp only [gl1, gl2]; omega)) only [go_sem, ↓reduceIte, Nat.reduceEqDiff, Nat.reduceAdd, Nat.reduceMul, Nat.reduceSub, Int.reduceToNat, Nat.reduceBEq, s4, s5, s6, s7, s8, s13, s16, s19, s20, hnx, b3, b5, hlt, hlt', htn, htn', k20a, k20b, g1, g2, g3, g4, g5, g6, hgt]
      rw [ForK_normal]
      exact ⟨hlt, by simp (disch := first | (simp only [go_sem, gb0, eq_self]; done) | omega | (simp only [gl1, gl2]; omega)) only [go_sem, ↓reduceIte, Nat.reduceEqDiff, Nat.reduceAdd, Nat.reduceMul, Nat.reduceSub, Int.reduceToNat, Nat.reduceBEq, s20], by simp (disch := first | (simp only [go_sem, gb0, eq_self]; done) | omega | (simp only [gl1, gl2]; omega)) only [go_sem, ↓reduceIte, Nat.reduceEqDiff, Nat.reduceAdd, Nat.reduceMul, Nat.reduceSub, Int.reduceToNat, Nat.reduceBEq, s4], by simp (disch := first | (simp only [go_sem, gb0, eq_self]; done) | omega | (simp only [gl1, gl2]; omega)) only [go_sem, ↓reduceIte, Nat.reduceEqDiff, Nat.reduceAdd, Nat.reduceMul, Nat.reduceSub, Int.reduceToNat, Nat.reduceBEq, s5], by simp (disch := first | (simp only [go_sem, gb0, eq_self]; done) | omega | (simp only [gl1, gl2]; omega)) only [go_sem, ↓reduceIte, Nat.reduceEqDiff, Nat.reduceAdd, Nat.reduceMul, Nat.reduceSub, Int.reduceToNat, Nat.reduceBEq, s6], by simp (disch := first | (simp only [go_sem, gb0, eq_self]; done) | omega | (simp only [gl1, gl2]; omega)) only [go_sem, ↓reduceIte, Nat.reduceEqDiff, Nat.reduceAdd, Nat.reduceMul, Nat.reduceSub, Int.reduceToNat, Nat.reduceBEq, s7], by simp (disch := first | (simp only [go_sem, gb0, eq_self]; done) | omega | (simp only [gl1, gl2]; omega)) only [go_sem, ↓reduceIte, Nat.reduceEqDiff, Nat.reduceAdd, Nat.reduceMul, Nat.reduceSub, Int.reduceToNat, Nat.reduceBEq, s8], by simp (disch := first | (simp only [go_sem, gb0, eq_self]; done) | omega | (simp only [gl1, gl2]; omega)) only [go_sem, ↓reduceIte, Nat.reduceEqDiff, Nat.reduceAdd, Nat.reduceMul, Nat.reduceSub, Int.reduceToNat, Nat.reduceBEq, s13], by simp (disch := first | (simp only [go_sem, gb0, eq_self]; done) | omega | (simp only [gl1, gl2]; omega)) only [go_sem, ↓reduceIte, Nat.reduceEqDiff, Nat.reduceAdd, Nat.reduceMul, Nat.reduceSub, Int.reduceToNat, Nat.reduceBEq, s16], by simp (disch := first | (simp only [go_sem, gb0, eq_self]; done) | omega | (simp only [gl1, gl2]; omega)) only [go_sem, ↓reduceIte, Nat.reduceEqDiff, Nat.reduceAdd, Nat.reduceMul, Nat.reduceSub, Int.reduceToNat, Nat.reduceBEq, hnx], by simp (disch := first | (simp only [go_sem, gb0, eq_self]; done) | omega | (simp only [gl1, gl2]; omega)) only [go_sem, ↓reduceIte, Nat.reduceEqDiff, Nat.reduceAdd, Nat.reduceMul, Nat.reduceSub, Int.reduceToNat, Nat.reduceBEq, b3], by simp (disch := first | (simp only [go_sem, gb0, eq_self]; done) | omega | (simp only [gl1, gl2]; omega)) only [go_sem, ↓reduceIte, Nat.reduceEqDiff, Nat.reduceAdd, Nat.reduceMul, Nat.reduceSub, Int.reduceToNat, Nat.reduceBEq, b5], i, by simp (disch := first | (simp only [go_sem, gb0, eq_self]; done) | omega | (simp only [gl1, gl2]; omega)) only [go_sem, ↓reduceIte, Nat.reduceEqDiff, Nat.reduceAdd, Nat.reduceMul, Nat.reduceSub, Int.reduceToNat, Nat.reduceBEq], hlt, fun k hk => by
        by_cases e : k = i
        · subst e; exact Int.le_refl _
        · have := hall k (by omega); omega⟩
    · simp (disch := first | (simp only [go_sem, gb0, eq_self]; done) | omega | (simp only [gl1, gl2]; omega)) only [go_sem, ↓reduceIte, Nat.reduceEqDiff, Nat.reduceAdd, Nat.reduceMul, Nat.reduceSub, Int.reduceToNat, Nat.reduceBEq, s4, s5, s6, s7, s8, s13, s16, s19, s20, hnx, b3, b5, hlt, hlt', htn, htn', k20a, k20b, g1, g2, g3, g4, g5, g6, hgt]
      rw [ForK_normal]
      exact ⟨hlt, by simp (disch := first | (simp only [go_sem, gb0, eq_self]; done) | omega | (simp only [gl1, gl2]; omega)) only [go_sem, ↓reduceIte, Nat.reduceEqDiff, Nat.reduceAdd, Nat.reduceMul, Nat.reduceSub, Int.reduceToNat, Nat.reduceBEq, s20], by simp (disch := first | (simp only [go_sem, gb0, eq_self]; done) | omega | (simp only [gl1, gl2]; omega)) only [go_sem, ↓reduceIte, Nat.reduceEqDiff, Nat.reduceAdd, Nat.reduceMul, Nat.reduceSub, Int.reduceToNat, Nat.reduceBEq, s4], by simp (disch := first | (simp only [go_sem, gb0, eq_self]; done) | omega | (simp only [gl1, gl2]; omega)) only [go_sem, ↓reduceIte, Nat.reduceEqDiff, Nat.reduceAdd, Nat.reduceMul, Nat.reduceSub, Int.reduceToNat, Nat.reduceBEq, s5], by simp (disch := first | (simp only [go_sem, gb0, eq_self]; done) | omega | (simp only [gl1, gl2]; omega)) only [go_sem, ↓reduceIte, Nat.reduceEqDiff, Nat.reduceAdd, Nat.reduceMul, Nat.reduceSub, Int.reduceToNat, Nat.reduceBEq, s6], by simp (disch := first | (simp only [go_sem, gb0, eq_self]; done) | omega | (simp only [gl1, gl2]; omega)) only [go_sem, ↓reduceIte, Nat.reduceEqDiff, Nat.reduceAdd, Nat.reduceMul, Nat.reduceSub, Int.reduceToNat, Nat.reduceBEq, s7], by simp (disch := first | (simp only [go_sem, gb0, eq_self]; done) | omega | (simp only [gl1, gl2]; omega)) only [go_sem, ↓reduceIte, Nat.reduceEqDiff, Nat.reduceAdd, Nat.reduceMul, Nat.reduceSub, Int.reduceToNat, Nat.reduceBEq, s8], by simp (disch := first | (simp only [go_sem, gb0, eq_self]; done) | omega | (simp only [gl1, gl2]; omega)) only [go_sem, ↓reduceIte, Nat.reduceEqDiff, Nat.reduceAdd, Nat.reduceMul, Nat.reduceSub, Int.reduceToNat, Nat.reduceBEq, s13], by simp (disch := first | (simp only [go_sem, gb0, eq_self]; done) | omega | (simp only [gl1, gl2]; omega)) only [go_sem, ↓reduceIte, Nat.reduceEqDiff, Nat.reduceAdd, Nat.reduceMul, Nat.reduceSub, Int.reduceToNat, Nat.reduceBEq, s16], by simp (disch := first | (simp only [go_sem, gb0, eq_self]; done) | omega | (simp only [gl1, gl2]; omega)) only [go_sem, ↓reduceIte, Nat.reduceEqDiff, Nat.reduceAdd, Nat.reduceMul, Nat.reduceSub, Int.reduceToNat, Nat.reduceBEq, hnx], by simp (disch := first | (simp only [go_sem, gb0, eq_self]; done) | omega | (simp only [gl1, gl2]; omega)) only [go_sem, ↓reduceIte, Nat.reduceEqDiff, Nat.reduceAdd, Nat.reduceMul, Nat.reduceSub, Int.reduceToNat, Nat.reduceBEq, b3], by simp (disch := first | (simp only [go_sem, gb0, eq_self]; done) | omega | (simp only [gl1, gl2]; omega)) only [go_sem, ↓reduceIte, Nat.reduceEqDiff, Nat.reduceAdd, Nat.reduceMul, Nat.reduceSub, Int.reduceToNat, Nat.reduceBEq, b5], t, by simp (disch := first | (simp only [go_sem, gb0, eq_self]; done) | omega | (simp only [gl1, gl2]; omega)) only [go_sem, ↓reduceIte, Nat.reduceEqDiff, Nat.reduceAdd, Nat.reduceMul, Nat.reduceSub, Int.reduceToNat, Nat.reduceBEq, s19], htn, fun k hk => by
        by_cases e : k = i
        · subst e; omega
        · exact hall k (by omega)⟩
  rintro st h ⟨s4, s5, s6, s7, s8, s13, s16, t, s19, htn, hall⟩
  have hts := htop t (by omega) (fun i hi => hall i (by omega))
  simp (disch := first | (simp only [go_sem, gb0, eq_self]; done) | omega | (simp only [gl1, gl2]; omega)) only [go_sem, ↓reduceIte, Nat.reduceEqDiff, Nat.reduceAdd, Nat.reduceMul, Nat.reduceSub, Int.reduceToNat, Nat.reduceBEq, s4, s5, s6, s7, s8, s13, s16, s19]
  refine WP_for 21 sl.length (fun i st h => st 4 = .bool false ∧ st 5 = .ptr 5 0 ∧ st 6 = I n ∧ st 7 = LP B ∧ st 8 = LI sl ∧ st 13 = LP B2 ∧ st 16 = LP B3 ∧ st 19 = I t ∧ hasB (sl.take i) t = false) (by simp (disch := first | (simp only [go_sem, gb0, eq_self]; done) | omega | (simp only [gl1, gl2]; omega)) only [go_sem, ↓reduceIte, Nat.reduceEqDiff, Nat.reduceAdd, Nat.reduceMul, Nat.reduceSub, Int.reduceToNat, Nat.reduceBEq]) ⟨by simp (disch := first | (simp only [go_sem, gb0, eq_self]; done) | omega | (simp only [gl1, gl2]; omega)) only [go_sem, ↓reduceIte, Nat.reduceEqDiff, Nat.reduceAdd, Nat.reduceMul, Nat.reduceSub, Int.reduceToNat, Nat.reduceBEq, s4, s5, s6, s7, s8, s13, s16], by simp (disch := first | (simp only [go_sem, gb0, eq_self]; done) | omega | (simp only [gl1, gl2]; omega)) only [go_sem, ↓reduceIte, Nat.reduceEqDiff, Nat.reduceAdd, Nat.reduceMul, Nat.reduceSub, Int.reduceToNat, Nat.reduceBEq, s4, s5, s6, s7, s8, s13, s16], by simp (disch := first | (simp only [go_sem, gb0, eq_self]; done) | omega | (simp only [gl1, gl2]; omega)) only [go_sem, ↓reduceIte, Nat.reduceEqDiff, Nat.reduceAdd, Nat.reduceMul, Nat.reduceSub, Int.reduceToNat, Nat.reduceBEq, s4, s5, s6, s7, s8, s13, s16], by simp (disch := first | (simp only [go_sem, gb0, eq_self]; done) | omega | (simp only [gl1, gl2]; omega)) only [go_sem, ↓reduceIte, Nat.reduceEqDiff, Nat.reduceAdd, Nat.reduceMul, Nat.reduceSub, Int.reduceToNat, Nat.reduceBEq, s4, s5, s6, s7, s8, s13, s16], by simp (disch := first | (simp only [go_sem, gb0, eq_self]; done) | omega | (simp only [gl1, gl2]; omega)) only [go_sem, ↓reduceIte, Nat.reduceEqDiff, Nat.reduceAdd, Nat.reduceMul, Nat.reduceSub, Int.reduceToNat, Nat.reduceBEq, s4, s5, s6, s7, s8, s13, s16], by simp (disch := first | (simp only [go_sem, gb0, eq_self]; done) | omega | (simp only [gl1, gl2]; omega)) only [go_sem, ↓reduceIte, Nat.reduceEqDiff, Nat.reduceAdd, Nat.reduceMul, Nat.reduceSub, Int.reduceToNat, Nat.reduceBEq, s4, s5, s6, s7, s8, s13, s16], by simp (disch := first | (simp only [go_sem, gb0, eq_self]; done) | omega | (simp only [gl1, gl2]; omega)) only [go_sem, ↓reduceIte, Nat.reduceEqDiff, Nat.reduceAdd, Nat.reduceMul, Nat.reduceSub, Int.reduceToNat, Nat.reduceBEq, s4, s5, s6, s7, s8, s13, s16], s19, rfl⟩ ?_
  rintro i st h hi s21 ⟨s4, s5, s6, s7, s8, s13, s16, s19, hno⟩
  by_cases hlt : i < sl.length
  case neg =>
    rw [hasB_all _ _ (by omega), hts] at hno
    cases hno
  have hlt' : (i : Int) < sl.length := by omega
  have htk := hasB_take sl t i hlt
  rw [hno, Bool.false_or] at htk
  by_cases he : nth sl i = t
  · simp (disch := first | (simp only [go_sem, gb0, eq_self]; done) | omega | (simp only [gl1, gl2]; omega)) only [go_sem, ↓reduceIte, Nat.reduceEqDiff, Nat.reduceAdd, Nat.reduceMul, Nat.reduceSub, Int.reduceToNat, Nat.reduceBEq, s4, s5, s6, s7, s8, s13, s16, s19, s21, hlt, hlt', he]
  · simp (disch := first | (simp only [go_sem, gb0, eq_self]; done) | omega | (simp only [gl1, gl2]; omega)) only [go_sem, ↓reduceIte, Nat.reduceEqDiff, Nat.reduceAdd, Nat.reduceMul, Nat.reduceSub, Int.reduceToNat, Nat.reduceBEq, s4, s5, s6, s7, s8, s13, s16, s19, s21, hlt, hlt', he]
    rw [ForK_normal]
    exact ⟨hlt, by simp (disch := first | (simp only [go_sem, gb0, eq_self]; done) | omega | (simp only [gl1, gl2]; omega)) only [go_sem, ↓reduceIte, Nat.reduceEqDiff, Nat.reduceAdd, Nat.reduceMul, Nat.reduceSub, Int.reduceToNat, Nat.reduceBEq, s21], by simp (disch := first | (simp only [go_sem, gb0, eq_self]; done) | omega | (simp only [gl1, gl2]; omega)) only [go_sem, ↓reduceIte, Nat.reduceEqDiff, Nat.reduceAdd, Nat.reduceMul, Nat.reduceSub, Int.reduceToNat, Nat.reduceBEq, s4], by simp (disch := first | (simp only [go_sem, gb0, eq_self]; done) | omega | (simp only [gl1, gl2]; omega)) only [go_sem, ↓reduceIte, Nat.reduceEqDiff, Nat.reduceAdd, Nat.reduceMul, Nat.reduceSub, Int.reduceToNat, Nat.reduceBEq, s5], by simp (disch := first | (simp only [go_sem, gb0, eq_self]; done) | omega | (simp only [gl1, gl2]; omega)) only [go_sem, ↓reduceIte, Nat.reduceEqDiff, Nat.reduceAdd, Nat.reduceMul, Nat.reduceSub, Int.reduceToNat, Nat.reduceBEq, s6], by simp (disch := first | (simp only [go_sem, gb0, eq_self]; done) | omega | (simp only [gl1, gl2]; omega)) only [go_sem, ↓reduceIte, Nat.reduceEqDiff, Nat.reduceAdd, Nat.reduceMul, Nat.reduceSub, Int.reduceToNat, Nat.reduceBEq, s7], by simp (disch := first | (simp only [go_sem, gb0, eq_self]; done) | omega | (simp only [gl1, gl2]; omega)) only [go_sem, ↓reduceIte, Nat.reduceEqDiff, Nat.reduceAdd, Nat.reduceMul, Nat.reduceSub, Int.reduceToNat, Nat.reduceBEq, s8], by simp (disch := first | (simp only [go_sem, gb0, eq_self]; done) | omega | (simp only [gl1, gl2]; omega)) only [go_sem, ↓reduceIte, Nat.reduceEqDiff, Nat.reduceAdd, Nat.reduceMul, Nat.reduceSub, Int.reduceToNat, Nat.reduceBEq, s13], by simp (disch := first | (simp only [go_sem, gb0, eq_self]; done) | omega | (simp only [gl1, gl2]; omega)) only [go_sem, ↓reduceIte, Nat.reduceEqDiff, Nat.reduceAdd, Nat.reduceMul, Nat.reduceSub, Int.reduceToNat, Nat.reduceBEq, s16], by simp (disch := first | (simp only [go_sem, gb0, eq_self]; done) | omega | (simp only [gl1, gl2]; omega)) only [go_sem, ↓reduceIte, Nat.reduceEqDiff, Nat.reduceAdd, Nat.reduceMul, Nat.reduceSub, Int.reduceToNat, Nat.reduceBEq, s19], by rw [htk]; simp [he]⟩
end Go.Proofs.Ytgamcclfdkpcgaa
