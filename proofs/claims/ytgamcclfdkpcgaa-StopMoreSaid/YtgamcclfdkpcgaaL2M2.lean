/-
  solve.
  isSound.
  isChain; the reference's Chain.
  Rules as lists: has, the reference's Rule, Rule.
  The reference's Values.
  The reference's Chain.
  Chains and lists of fractions, read as lists of numbers.
  tame: whatever chain goes in, a small true chain comes out.
  isBest; the values of a chain.
  The reference's Best: the plain law.
  The reference's Sound.
  The reference's Best.
  The chain laws' configuration: what best and awake answer is known.
  Lists compared; valid fractions; Best, Check.
  The reference's tests of values; Best, Check.
  'StopBest' answers true.
  What the values of a best rule obey, as fractions and as whole numbers over a common denominator.
  A configuration in which a copy of a chain is handed over whole; copies in it.
  A copy of a chain, handed over whole.
-/
import Derived.Test.YtgamcclfdkpcgaaL2M1
set_option linter.unusedVariables false
set_option linter.unusedSimpArgs false
set_option maxRecDepth 10000
namespace Go.Proofs.Ytgamcclfdkpcgaa
open Go Go.Am

variable {h h' : Hp} {K : AV → Hp → Prop}

/-- The values of a rule, as fractions. -/
noncomputable def valL (nx : List (List Int)) (pay cost : List Int) (x : Nat) : List (Int × Int) :=
  (List.range nx.length).map fun i => rdP (VN nx.length (wF nx) (pF pay) (pF cost) (ruleB x) i) (DN nx.length (wF nx) (pF pay) (pF cost) (ruleB x))
theorem elimP_congr {row row' by_ by' : Nat → Int} {c n : Nat} (hc : c ≤ n) (h1 : ∀ k, k ≤ n → row k = row' k) (h2 : ∀ k, k ≤ n → by_ k = by' k) : ∀ k, k ≤ n → elimP row by_ c n k = elimP row' by' c n k := by
  have e : ∀ k, k ≤ n → elimR row by_ c k = elimR row' by' c k := fun k hk => by unfold elimR; rw [h1 k hk, h2 k hk, h1 c hc, h2 c hc]
  have g : ∀ m, m ≤ n + 1 → allG (elimR row by_ c) m = allG (elimR row' by' c) m := by
    intro m
    induction m with
    | zero => intro _; rfl
    | succ m ih => intro hm; rw [allG, allG, ih (by omega), e m (by omega)]
  intro k hk
  unfold elimP
  rw [g _ (Nat.le_refl _), e k hk]
theorem put_same {id : Nat} {b : Option Blk} (hb : h.bl id = b) : h.put id b = h := by
  cases h
  simp only [Hp.put, Hp.mk.injEq, true_and]
  funext k
  split
  · rename_i e; rw [e]; exact hb.symm
  · rfl
def rowA (X : Mat) (i : Nat) : List AV := vecA (X i) 7
theorem matA_row (X : Mat) (i : Nat) (hi : i < 6) (N : Nat) (hN : N ≤ 7) : ((matA X).drop (i * 7)).take N = vecA (X i) N := by
  refine List.ext_getElem? fun k => ?_
  by_cases hk : k < N
  · rw [List.getElem?_take_of_lt hk, List.getElem?_drop, matA_get _ _ _ hi (by omega), vecA_get _ _ _ hk]
  · rw [List.getElem?_eq_none (by rw [List.length_take]; omega), List.getElem?_eq_none (by rw [vecA_len]; omega)]
@[go_sem] theorem matA_loadrow (X : Mat) (i : Nat) (hi : i < 6) : loadC (some (.array 7 3)) (some 7) (some (matA X, i * 7)) = some (.agg (rowA X i)) := by
  rw [loadC_agg (.array 7 3) 7 rfl _ _ (by rw [matA_len]; omega), matA_row _ _ hi _ (Nat.le_refl _)]; rfl
theorem setL_same (xs : List AV) : ∀ (ys : List AV) (off : Nat), (∀ k, k < ys.length → xs[off + k]? = ys[k]?) → setL xs off ys = xs
  | [], _, _ => rfl
  | y :: ys, off, h => by
    have h0 := h 0 (by simp)
    rw [setL]
    have : xs.set off y = xs := by
      refine List.ext_getElem? fun k => ?_
      rw [List.getElem?_set]
      split
      · rename_i e
        subst e
        simp only [Nat.add_zero, List.getElem?_cons_zero] at h0
        rw [h0]
        split
        · rfl
        · rename_i hl; rw [List.getElem?_eq_none (by omega)] at h0; cases h0
      · rfl
    rw [this]
    refine setL_same xs ys (off + 1) fun k hk => ?_
    have := h (k + 1) (by simp; omega)
    rw [List.getElem?_cons_succ] at this
    rw [← this]; congr 1; omega
@[go_sem] theorem matA_storerow (X : Mat) (id i : Nat) (hi : i < 6) : storeC h id (i * 7) 7 (some (.cells false false (matA X))) (rowA X i) = some (.skp, h.put id (some (.cells false false (matA X)))) := by
  rw [storeC_many id _ 7 false _ (rowA X i) (vecA_len _ _) (List.all_eq_true.2 fun x hx => by obtain ⟨k, _, rfl⟩ := List.mem_map.1 hx; rfl) (by rw [matA_len]; omega)]
  rw [setL_same _ _ _ fun k hk => ?_]
  rw [rowA, vecA_len] at hk
  rw [matA_get _ _ _ hi hk, rowA, vecA_get _ _ _ hk]
@[go_sem] theorem AV_cells_agg (cs : List AV) : (AV.agg cs).cells = cs := rfl
theorem sliceC_row (X : Mat) (id i N : Nat) (fz : Bool) (hi : i < 6) (hN : N ≤ 7) : sliceC (some 1) 7 (i * 7) id none (some (I N)) (some (.cells fz false (matA X))) true = some (.sl id (i * 7) N 1) := by
  have : (7 : Nat) ≤ maxLen := by decide
  have hfl := matA_len X
  generalize matA X = fl at hfl
  have h1 : i * 7 + 7 ≤ 42 := by omega
  have h2 : (N : Int) ≤ 7 := by omega
  simp [sliceC, hiB, loB, boundA, hfl, this, h1, h2]
theorem copyC_vec (hp : Hp) (id N : Nat) (row : Bool) (zs : List AV) (f : Nat → Int) (hz : zs.length = N) (e : Nat) :
    copyC hp (some (.slice e)) (some 1) (.sl id 0 N 1) (some (.cells false row zs)) (some (vecA f N)) (some N) = some (I N, hp.put id (some (.cells false row (vecA f N)))) := by
  have h1 : (vecA f N).all AV.isCell = true := List.all_eq_true.2 fun x hx => by obtain ⟨k, _, rfl⟩ := List.mem_map.1 hx; rfl
  unfold copyC; dsimp only
  rw [if_pos ⟨rfl, by decide, by rw [vecA_len]; omega, by omega, h1⟩, Nat.min_self, List.take_of_length_le (by rw [vecA_len]; omega)]
  have := setL_all zs (vecA f N) [] (by rw [vecA_len, hz])
  simp only [List.nil_append, List.length_nil] at this
  rw [this]
theorem cells_row (X : Mat) (hp : Hp) (id i N : Nat) (fz row : Bool) (hi : i < 6) (hN : N ≤ 7) (hb : hp.bl id = some (.cells fz row (matA X))) : cellsOf hp none (.sl id (i * 7) N 1) = some (vecA (X i) N) := by
  have h1 : i * 7 + N ≤ 42 := by omega
  simp only [cellsOf, rd, hb, lims_none, if_true, Option.bind_some, matA_len, Nat.mul_one, h1, matA_row X i hi N hN]

theorem f55_con {nx : List (List Int)} {pay cost : List Int} (C : okC nx pay cost) (x : Nat) (hs : sndP nx.length (wF nx) (ruleB x)) : Con Try.prog cfg 55 [eqR nx pay cost x, I nx.length] (LP (valL nx pay cost x)) := by
  obtain ⟨n, hn⟩ : ∃ n, n = nx.length := ⟨_, rfl⟩
  have hn1 := C.n1
  have hn6 := C.n6
  have S := sys_of C.chn hs
  obtain ⟨M, hM⟩ : ∃ M, M = eqM nx.length (wF nx) (pF pay) (pF cost) (ruleB x) := ⟨_, rfl⟩
  have hM' : eqM nx.length (fun i j => nth (nth nx i) j) (fun i => nth pay i) (fun i => nth cost i) (ruleB x) = M := hM.symm
  rw [hM', ← hn] at S
  have hal : ∀ g : Hp, allocB g (some (eqR nx pay cost x)) = some (.ptr g.nx 0, g.alloc (.cells false false (matA (eqX nx pay cost x nx.length)))) := fun g => allocB_agg _ (matA_cell _)
  have hX0 : ∀ i k, i < n → k ≤ n → eqX nx pay cost x nx.length i k = XE n M 0 i k := fun i k hi hk => by
    unfold eqX; rw [if_pos ⟨by omega, by omega⟩, XE, hM]
  generalize eqX nx pay cost x nx.length = X0 at *
  rw [← hn]
  refine Con_intro Try.func55 rfl ok55 (Nat.le_of_ble_eq_true rfl) rfl ?_
  simp only [Try.f55, Option.getD_some, initSt2]
  simp (disch := first | (simp only [go_sem, gb0, eq_self]; done) | omega | (simp only [gl1, gl2]; omega)) only [go_sem, ↓reduceIte, Nat.reduceEqDiff, Nat.reduceAdd, Nat.reduceMul, Nat.reduceSub, Int.reduceToNat, Nat.reduceBEq, hal]
  refine WP_cut (fun st h => st 1 = I n ∧ st 2 = .ptr 0 0 ∧ ∃ X, h.bl 0 = some (.cells false false (matA X)) ∧ 0 < h.nx ∧ ∀ i k, i < n → k ≤ n → X i k = XE n M n i k) ?_ ?_
  · refine WP_for 12 n (fun c st h => st 1 = I n ∧ st 2 = .ptr 0 0 ∧ st 4 = .nil ∧ st 11 = I n ∧ ∃ X, h.bl 0 = some (.cells false false (matA X)) ∧ 0 < h.nx ∧ ∀ i k, i < n → k ≤ n → X i k = XE n M c i k) (by simp (disch := first | (simp only [go_sem, gb0, eq_self]; done) | omega | (simp only [gl1, gl2]; omega)) only [go_sem, ↓reduceIte, Nat.reduceEqDiff, Nat.reduceAdd, Nat.reduceMul, Nat.reduceSub, Int.reduceToNat, Nat.reduceBEq]) ⟨by simp (disch := first | (simp only [go_sem, gb0, eq_self]; done) | omega | (simp only [gl1, gl2]; omega)) only [go_sem, ↓reduceIte, Nat.reduceEqDiff, Nat.reduceAdd, Nat.reduceMul, Nat.reduceSub, Int.reduceToNat, Nat.reduceBEq], by simp (disch := first | (simp only [go_sem, gb0, eq_self]; done) | omega | (simp only [gl1, gl2]; omega)) only [go_sem, ↓reduceIte, Nat.reduceEqDiff, Nat.reduceAdd, Nat.reduceMul, Nat.reduceSub, Int.reduceToNat, Nat.reduceBEq], by simp (disch := first | (simp only [go_sem, gb0, eq_self]; done) | omega | (simp only [gl1, gl2]; omega)) only [go_sem, ↓reduceIte, Nat.reduceEqDiff, Nat.reduceAdd, Nat.reduceMul, Nat.reduceSub, Int.reduceToNat, Nat.reduceBEq], by simp (disch := first | (simp only [go_sem, gb0, eq_self]; done) | omega | (simp only [gl1, gl2]; omega)) only [go_sem, ↓reduceIte, Nat.reduceEqDiff, Nat.reduceAdd, Nat.reduceMul, Nat.reduceSub, Int.reduceToNat, Nat.reduceBEq], X0, by simp (disch := first | (simp only [go_sem, gb0, eq_self]; done) | omega | (simp only [gl1, gl2]; omega)) only [go_sem, ↓reduceIte, Nat.reduceEqDiff, Nat.reduceAdd, Nat.reduceMul, Nat.reduceSub, Int.reduceToNat, Nat.reduceBEq], by simp (disch := first | (simp only [go_sem, gb0, eq_self]; done) | omega | (simp only [gl1, gl2]; omega)) only [go_sem, ↓reduceIte, Nat.reduceEqDiff, Nat.reduceAdd, Nat.reduceMul, Nat.reduceSub, Int.reduceToNat, Nat.reduceBEq]; exact Nat.lt_succ_self 0, hX0⟩ ?_
    rintro c st h hc s12 ⟨s1, s2, s4, s11, X, b0, hnx, hX⟩
    by_cases hlt : c < n
    case neg =>
      have hce : c = n := by omega
      subst hce
      simp (disch := first | (simp only [go_sem, gb0, eq_self]; done) | omega | (simp only [gl1, gl2]; omega)) only [go_sem, ↓reduceIte, Nat.reduceEqDiff, Nat.reduceAdd, Nat.reduceMul, Nat.reduceSub, Int.reduceToNat, Nat.reduceBEq, s1, s2, s11, s12, hlt]
      exact ⟨X, b0, hnx, hX⟩
    have St := S.stage c (by omega)
    have hcc := St.diag hlt
    rw [← hX c c hlt (by omega)] at hcc
    have hc6 : c < 6 := by omega
    have hc6' : (c : Int) < 6 := by omega
    have hc7 : c < 7 := by omega
    have hc7' : (c : Int) < 7 := by omega
    have hne : ¬ X c c = 0 := by omega
    have hN7 : n + 1 ≤ 7 := by omega
    have hN7' : (n : Int) + 1 ≤ 7 := by omega
    simp (disch := first | (simp only [go_sem, gb0, eq_self]; done) | omega | (simp only [gl1, gl2]; omega)) only [go_sem, ↓reduceIte, Nat.reduceEqDiff, Nat.reduceAdd, Nat.reduceMul, Nat.reduceSub, Int.reduceToNat, Nat.reduceBEq, s1, s2, s4, s11, s12, hlt]
    refine WP_cut (fun st h' => st 1 = I n ∧ st 2 = .ptr 0 0 ∧ st 4 = .nil ∧ st 11 = I n ∧ st 5 = I c ∧ st 6 = I c ∧ st 12 = I c ∧ h' = h) ?_ ?_
    · refine WP_loopK (fun m st h' => st 1 = I n ∧ st 2 = .ptr 0 0 ∧ st 4 = .nil ∧ st 11 = I n ∧ st 5 = I c ∧ st 6 = I c ∧ st 12 = I c ∧ h' = h) 0 ⟨by simp (disch := first | (simp only [go_sem, gb0, eq_self]; done) | omega | (simp only [gl1, gl2]; omega)) only [go_sem, ↓reduceIte, Nat.reduceEqDiff, Nat.reduceAdd, Nat.reduceMul, Nat.reduceSub, Int.reduceToNat, Nat.reduceBEq, s1], by simp (disch := first | (simp only [go_sem, gb0, eq_self]; done) | omega | (simp only [gl1, gl2]; omega)) only [go_sem, ↓reduceIte, Nat.reduceEqDiff, Nat.reduceAdd, Nat.reduceMul, Nat.reduceSub, Int.reduceToNat, Nat.reduceBEq, s2], by simp (disch := first | (simp only [go_sem, gb0, eq_self]; done) | omega | (simp only [gl1, gl2]; omega)) only [go_sem, ↓reduceIte, Nat.reduceEqDiff, Nat.reduceAdd, Nat.reduceMul, Nat.reduceSub, Int.reduceToNat, Nat.reduceBEq, s4], by simp (disch := first | (simp only [go_sem, gb0, eq_self]; done) | omega | (simp only [gl1, gl2]; omega)) only [go_sem, ↓reduceIte, Nat.reduceEqDiff, Nat.reduceAdd, Nat.reduceMul, Nat.reduceSub, Int.reduceToNat, Nat.reduceBEq, s11], by simp (disch := first | (simp only [go_sem, gb0, eq_self]; done) | omega | (simp only [gl1, gl2]; omega)) only [go_sem, ↓reduceIte, Nat.reduceEqDiff, Nat.reduceAdd, Nat.reduceMul, Nat.reduceSub, Int.reduceToNat, Nat.reduceBEq], by simp (disch := first | (simp only [go_sem, gb0, eq_self]; done) | omega | (simp only [gl1, gl2]; omega)) only [go_sem, ↓reduceIte, Nat.reduceEqDiff, Nat.reduceAdd, Nat.reduceMul, Nat.reduceSub, Int.reduceToNat, Nat.reduceBEq], by simp (disch := first | (simp only [go_sem, gb0, eq_self]; done) | omega | (simp only [gl1, gl2]; omega)) only [go_sem, ↓reduceIte, Nat.reduceEqDiff, Nat.reduceAdd, Nat.reduceMul, Nat.reduceSub, Int.reduceToNat, Nat.reduceBEq, s12], rfl⟩ ?_
      rintro m st h' ⟨s1, s2, s4, s11, s5, s6, s12, rfl⟩
      simp (disch := first | (simp only [go_sem, gb0, eq_self]; done) | omega | (simp only [gl1, gl2]; omega)) only [go_sem, ↓reduceIte, Nat.reduceEqDiff, Nat.reduceAdd, Nat.reduceMul, Nat.reduceSub, Int.reduceToNat, Nat.reduceBEq, s1, s2, s4, s11, s5, s6, s12, hc6, hc6', hc7, hc7', b0, hne]
    rintro st h' ⟨s1, s2, s4, s11, s5, s6, s12, rfl⟩
    have hps := put_same b0
    have hmk : ∀ g : Hp, makeB Try.prog g (some (.slice 3)) (.int .i64 ((n : Int) + 1)) (.int .i64 ((n : Int) + 1)) = some (.sl g.nx 0 (n + 1) 1, g.alloc (.cells false true ((List.replicate (n + 1) (0 : Int)).flatMap (e1 I)))) := fun g => by
      have := makeB_int (P := Try.prog) (h := g) 3 ((n : Int) + 1) isz3 ibytes3 izero3 (by omega) (by omega)
      rwa [show ((n : Int) + 1).toNat = n + 1 by omega] at this
    obtain ⟨J, hJ⟩ : ∃ J, J = h'.nx := ⟨_, rfl⟩
    have hJ0 : ¬ 0 = J := by omega
    have hJ0' : ¬ J = 0 := by omega
    obtain ⟨g1, hg1⟩ : ∃ g1, g1 = h'.alloc (.cells false true ((List.replicate (n + 1) (0 : Int)).flatMap (e1 I))) := ⟨_, rfl⟩
    have g1n : g1.nx = J + 1 := by rw [hg1, hJ]; rfl
    have g10 : g1.bl 0 = some (.cells false false (matA X)) := by rw [hg1, alloc_bl, if_neg (by omega)]; exact b0
    have g1J : g1.bl J = some (.cells false true ((List.replicate (n + 1) (0 : Int)).flatMap (e1 I))) := by rw [hg1, alloc_bl, if_pos hJ]
    have hcell := cells_row X g1 0 c (n + 1) false false hc6 hN7 g10
    have hsl := sliceC_row X 0 c (n + 1) false hc6 hN7
    have hcp := copyC_vec g1 J (n + 1) true ((List.replicate (n + 1) (0 : Int)).flatMap (e1 I)) (X c) (by rw [flat_len]; simp) 3
    have hcast : (((n + 1 : Nat) : Int)) = (n : Int) + 1 := by omega
    rw [hcast] at hsl hcp
    have hln : lenA (.sl 0 (c * 7) (n + 1) 1) = some (n + 1) := rfl
    obtain ⟨g2, hg2⟩ : ∃ g2, g2 = g1.put J (some (.cells false true (vecA (X c) (n + 1)))) := ⟨_, rfl⟩
    have g2n : g2.nx = J + 1 := by rw [hg2]; exact g1n
    have g20 : g2.bl 0 = some (.cells false false (matA X)) := by rw [hg2, put_bl, if_neg hJ0]; exact g10
    have g2J : g2.bl J = some (.cells false true (vecA (X c) (n + 1))) := by rw [hg2, put_bl, if_pos rfl]
    simp (disch := first | (simp only [go_sem, gb0, eq_self]; done) | omega | (simp only [gl1, gl2]; omega)) only [go_sem, ↓reduceIte, Nat.reduceEqDiff, Nat.reduceAdd, Nat.reduceMul, Nat.reduceSub, Int.reduceToNat, Nat.reduceBEq, s1, s2, s4, s11, s5, s6, s12, hc6, hc6', hc7, hc7', hnx, b0, AV_cells_agg, hps, hmk, ← hg1, ← hJ, g10, g1J, hsl, hcell, hcp, hln, ← hg2]
    refine WP_cut (fun st h => st 1 = I n ∧ st 2 = .ptr 0 0 ∧ st 4 = .nil ∧ st 11 = I n ∧ st 12 = I c ∧ h.nx = J + 1 ∧ ∃ X', h.bl 0 = some (.cells false false (matA X')) ∧ ∀ r k, r < n → k ≤ n → X' r k = XE n M (c + 1) r k) ?_ ?_
    · refine WP_for 45 n (fun i st h => st 1 = I n ∧ st 2 = .ptr 0 0 ∧ st 4 = .nil ∧ st 11 = I n ∧ st 5 = I c ∧ st 7 = .sl J 0 (n + 1) 1 ∧ st 12 = I c ∧ st 44 = I n ∧ h.nx = J + 1 ∧ h.bl J = some (.cells false true (vecA (X c) (n + 1))) ∧ ∃ X', h.bl 0 = some (.cells false false (matA X')) ∧ ∀ r k, r < n → k ≤ n → X' r k = if r < i then XE n M (c + 1) r k else XE n M c r k) (by simp (disch := first | (simp only [go_sem, gb0, eq_self]; done) | omega | (simp only [gl1, gl2]; omega)) only [go_sem, ↓reduceIte, Nat.reduceEqDiff, Nat.reduceAdd, Nat.reduceMul, Nat.reduceSub, Int.reduceToNat, Nat.reduceBEq]) ⟨by simp (disch := first | (simp only [go_sem, gb0, eq_self]; done) | omega | (simp only [gl1, gl2]; omega)) only [go_sem, ↓reduceIte, Nat.reduceEqDiff, Nat.reduceAdd, Nat.reduceMul, Nat.reduceSub, Int.reduceToNat, Nat.reduceBEq, s1], by simp (disch := first | (simp only [go_sem, gb0, eq_self]; done) | omega | (simp only [gl1, gl2]; omega)) only [go_sem, ↓reduceIte, Nat.reduceEqDiff, Nat.reduceAdd, Nat.reduceMul, Nat.reduceSub, Int.reduceToNat, Nat.reduceBEq, s2], by simp (disch := first | (simp only [go_sem, gb0, eq_self]; done) | omega | (simp only [gl1, gl2]; omega)) only [go_sem, ↓reduceIte, Nat.reduceEqDiff, Nat.reduceAdd, Nat.reduceMul, Nat.reduceSub, Int.reduceToNat, Nat.reduceBEq, s4], by simp (disch := first | (simp only [go_sem, gb0, eq_self]; done) | omega | (simp only [gl1, gl2]; omega)) only [go_sem, ↓reduceIte, Nat.reduceEqDiff, Nat.reduceAdd, Nat.reduceMul, Nat.reduceSub, Int.reduceToNat, Nat.reduceBEq, s11], by simp (disch := first | (simp only [go_sem, gb0, eq_self]; done) | omega | (simp only [gl1, gl2]; omega)) only [go_sem, ↓reduceIte, Nat.reduceEqDiff, Nat.reduceAdd, Nat.reduceMul, Nat.reduceSub, Int.reduceToNat, Nat.reduceBEq, s5], by simp (disch := first | (simp only [go_sem, gb0, eq_self]; done) | omega | (simp only [gl1, gl2]; omega)) only [go_sem, ↓reduceIte, Nat.reduceEqDiff, Nat.reduceAdd, Nat.reduceMul, Nat.reduceSub, Int.reduceToNat, Nat.reduceBEq], by simp (disch := first | (simp only [go_sem, gb0, eq_self]; done) | omega | (simp only [gl1, gl2]; omega)) only [go_sem, ↓reduceIte, Nat.reduceEqDiff, Nat.reduceAdd, Nat.reduceMul, Nat.reduceSub, Int.reduceToNat, Nat.reduceBEq, s12], by simp (disch := first | (simp only [go_sem, gb0, eq_self]; done) | omega | (simp only [gl1, gl2]; omega)) only [go_sem, ↓reduceIte, Nat.reduceEqDiff, Nat.reduceAdd, Nat.reduceMul, Nat.reduceSub, Int.reduceToNat, Nat.reduceBEq], g2n, g2J, X, g20, fun r k hr hk => by rw [if_neg (by omega)]; exact hX r k hr hk⟩ ?_
      rintro i st h hi s45 ⟨s1, s2, s4, s11, s5, s7, s12, s44, hn2, bJ, X', b0, hX'⟩
      by_cases hil : i < n
      case neg =>
        have hie : i = n := by omega
        subst hie
        simp (disch := first | (simp only [go_sem, gb0, eq_self]; done) | omega | (simp only [gl1, gl2]; omega)) only [go_sem, ↓reduceIte, Nat.reduceEqDiff, Nat.reduceAdd, Nat.reduceMul, Nat.reduceSub, Int.reduceToNat, Nat.reduceBEq, s1, s2, s4, s11, s5, s7, s12, s44, s45, hil]
        exact ⟨hn2, X', b0, fun r k hr hk => by rw [hX' r k hr hk, if_pos hr]⟩
      have hstep : XE n M (c + 1) = stepE n c (XE n M c) := rfl
      have hi6 : i < 6 := by omega
      have hi6' : (i : Int) < 6 := by omega
      have hv : X' i c = XE n M c i c := by rw [hX' i c hil (by omega), if_neg (by omega)]
      have keep : (∀ k, k ≤ n → XE n M (c + 1) i k = XE n M c i k) → ∀ r k, r < n → k ≤ n → X' r k = if r < i + 1 then XE n M (c + 1) r k else XE n M c r k := fun he r k hr hk => by
        rw [hX' r k hr hk]
        by_cases h1 : r < i
        · rw [if_pos h1, if_pos (by omega)]
        · by_cases h2 : r = i
          · subst h2; rw [if_neg h1, if_pos (by omega), he k hk]
          · rw [if_neg h1, if_neg (by omega)]
      by_cases hic : i = c
      · subst hic
        simp (disch := first | (simp only [go_sem, gb0, eq_self]; done) | omega | (simp only [gl1, gl2]; omega)) only [go_sem, ↓reduceIte, Nat.reduceEqDiff, Nat.reduceAdd, Nat.reduceMul, Nat.reduceSub, Int.reduceToNat, Nat.reduceBEq, s1, s2, s4, s11, s5, s7, s12, s44, s45, hil, eq_self, decide_true, Bool.not_true]
        rw [ForK_normal]
        exact ⟨hil, by simp (disch := first | (simp only [go_sem, gb0, eq_self]; done) | omega | (simp only [gl1, gl2]; omega)) only [go_sem, ↓reduceIte, Nat.reduceEqDiff, Nat.reduceAdd, Nat.reduceMul, Nat.reduceSub, Int.reduceToNat, Nat.reduceBEq, s45], by simp (disch := first | (simp only [go_sem, gb0, eq_self]; done) | omega | (simp only [gl1, gl2]; omega)) only [go_sem, ↓reduceIte, Nat.reduceEqDiff, Nat.reduceAdd, Nat.reduceMul, Nat.reduceSub, Int.reduceToNat, Nat.reduceBEq, s1], by simp (disch := first | (simp only [go_sem, gb0, eq_self]; done) | omega | (simp only [gl1, gl2]; omega)) only [go_sem, ↓reduceIte, Nat.reduceEqDiff, Nat.reduceAdd, Nat.reduceMul, Nat.reduceSub, Int.reduceToNat, Nat.reduceBEq, s2], by simp (disch := first | (simp only [go_sem, gb0, eq_self]; done) | omega | (simp only [gl1, gl2]; omega)) only [go_sem, ↓reduceIte, Nat.reduceEqDiff, Nat.reduceAdd, Nat.reduceMul, Nat.reduceSub, Int.reduceToNat, Nat.reduceBEq, s4], by simp (disch := first | (simp only [go_sem, gb0, eq_self]; done) | omega | (simp only [gl1, gl2]; omega)) only [go_sem, ↓reduceIte, Nat.reduceEqDiff, Nat.reduceAdd, Nat.reduceMul, Nat.reduceSub, Int.reduceToNat, Nat.reduceBEq, s11], by simp (disch := first | (simp only [go_sem, gb0, eq_self]; done) | omega | (simp only [gl1, gl2]; omega)) only [go_sem, ↓reduceIte, Nat.reduceEqDiff, Nat.reduceAdd, Nat.reduceMul, Nat.reduceSub, Int.reduceToNat, Nat.reduceBEq, s5], by simp (disch := first | (simp only [go_sem, gb0, eq_self]; done) | omega | (simp only [gl1, gl2]; omega)) only [go_sem, ↓reduceIte, Nat.reduceEqDiff, Nat.reduceAdd, Nat.reduceMul, Nat.reduceSub, Int.reduceToNat, Nat.reduceBEq, s7], by simp (disch := first | (simp only [go_sem, gb0, eq_self]; done) | omega | (simp only [gl1, gl2]; omega)) only [go_sem, ↓reduceIte, Nat.reduceEqDiff, Nat.reduceAdd, Nat.reduceMul, Nat.reduceSub, Int.reduceToNat, Nat.reduceBEq, s12], by simp (disch := first | (simp only [go_sem, gb0, eq_self]; done) | omega | (simp only [gl1, gl2]; omega)) only [go_sem, ↓reduceIte, Nat.reduceEqDiff, Nat.reduceAdd, Nat.reduceMul, Nat.reduceSub, Int.reduceToNat, Nat.reduceBEq, s44], hn2, bJ, X', b0, keep fun k _ => by rw [hstep]; unfold stepE; rw [if_pos (.inl rfl)]⟩
      by_cases hz : XE n M c i c = 0
      · rw [hz] at hv
        simp (disch := first | (simp only [go_sem, gb0, eq_self]; done) | omega | (simp only [gl1, gl2]; omega)) only [go_sem, ↓reduceIte, Nat.reduceEqDiff, Nat.reduceAdd, Nat.reduceMul, Nat.reduceSub, Int.reduceToNat, Nat.reduceBEq, s1, s2, s4, s11, s5, s7, s12, s44, s45, hil, hic, hi6, hi6', hc7, hc7', b0, hv, eq_self, decide_true, Bool.not_true]
        rw [ForK_normal]
        exact ⟨hil, by simp (disch := first | (simp only [go_sem, gb0, eq_self]; done) | omega | (simp only [gl1, gl2]; omega)) only [go_sem, ↓reduceIte, Nat.reduceEqDiff, Nat.reduceAdd, Nat.reduceMul, Nat.reduceSub, Int.reduceToNat, Nat.reduceBEq, s45], by simp (disch := first | (simp only [go_sem, gb0, eq_self]; done) | omega | (simp only [gl1, gl2]; omega)) only [go_sem, ↓reduceIte, Nat.reduceEqDiff, Nat.reduceAdd, Nat.reduceMul, Nat.reduceSub, Int.reduceToNat, Nat.reduceBEq, s1], by simp (disch := first | (simp only [go_sem, gb0, eq_self]; done) | omega | (simp only [gl1, gl2]; omega)) only [go_sem, ↓reduceIte, Nat.reduceEqDiff, Nat.reduceAdd, Nat.reduceMul, Nat.reduceSub, Int.reduceToNat, Nat.reduceBEq, s2], by simp (disch := first | (simp only [go_sem, gb0, eq_self]; done) | omega | (simp only [gl1, gl2]; omega)) only [go_sem, ↓reduceIte, Nat.reduceEqDiff, Nat.reduceAdd, Nat.reduceMul, Nat.reduceSub, Int.reduceToNat, Nat.reduceBEq, s4], by simp (disch := first | (simp only [go_sem, gb0, eq_self]; done) | omega | (simp only [gl1, gl2]; omega)) only [go_sem, ↓reduceIte, Nat.reduceEqDiff, Nat.reduceAdd, Nat.reduceMul, Nat.reduceSub, Int.reduceToNat, Nat.reduceBEq, s11], by simp (disch := first | (simp only [go_sem, gb0, eq_self]; done) | omega | (simp only [gl1, gl2]; omega)) only [go_sem, ↓reduceIte, Nat.reduceEqDiff, Nat.reduceAdd, Nat.reduceMul, Nat.reduceSub, Int.reduceToNat, Nat.reduceBEq, s5], by simp (disch := first | (simp only [go_sem, gb0, eq_self]; done) | omega | (simp only [gl1, gl2]; omega)) only [go_sem, ↓reduceIte, Nat.reduceEqDiff, Nat.reduceAdd, Nat.reduceMul, Nat.reduceSub, Int.reduceToNat, Nat.reduceBEq, s7], by simp (disch := first | (simp only [go_sem, gb0, eq_self]; done) | omega | (simp only [gl1, gl2]; omega)) only [go_sem, ↓reduceIte, Nat.reduceEqDiff, Nat.reduceAdd, Nat.reduceMul, Nat.reduceSub, Int.reduceToNat, Nat.reduceBEq, s12], by simp (disch := first | (simp only [go_sem, gb0, eq_self]; done) | omega | (simp only [gl1, gl2]; omega)) only [go_sem, ↓reduceIte, Nat.reduceEqDiff, Nat.reduceAdd, Nat.reduceMul, Nat.reduceSub, Int.reduceToNat, Nat.reduceBEq, s44], hn2, bJ, X', b0, keep fun k _ => by rw [hstep]; unfold stepE; rw [if_pos (.inr hz)]⟩
      have hv0 : ¬ X' i c = 0 := by rw [hv]; exact hz
      have hXi : ∀ k, k ≤ n → X' i k = XE n M c i k := fun k hk => by rw [hX' i k hil hk, if_neg (by omega)]
      have hXc : ∀ k, k ≤ n → X c k = XE n M c c k := fun k hk => hX c k hlt hk
      have hbE : bE n ≤ 262144 := by
        have h1 : (8 : Nat) ^ n ≤ 8 ^ 6 := Nat.pow_le_pow_right (by decide) (by omega)
        have h2 : ((8 ^ n : Nat) : Int) = bE n := by simp [bE]
        have : (8 : Nat) ^ 6 = 262144 := by decide
        omega
      have hbC : bC n ≤ 3188646000 := by
        have h1 : (9 : Nat) ^ n ≤ 9 ^ 6 := Nat.pow_le_pow_right (by decide) (by omega)
        have h3 : n * (1000 * 9 ^ n) ≤ 6 * (1000 * 9 ^ 6) := Nat.mul_le_mul (by omega) (Nat.mul_le_mul_left _ h1)
        have h2 : ((n * (1000 * 9 ^ n) : Nat) : Int) = bC n := by simp [bC]
        have : 6 * (1000 * 9 ^ 6) = 3188646000 := by decide
        omega
      have hbd : ∀ r, r < n → ∀ k, k < n + 1 → -4000000000 ≤ XE n M c r k ∧ XE n M c r k ≤ 4000000000 := fun r hr k hk => by
        by_cases hkn : k < n
        · have := S.ent_le (show c ≤ n by omega) hr hkn; omega
        · have := S.const_le (show c ≤ n by omega) hr
          rw [show k = n by omega]; omega
      have e1 := S.ent_le (show c ≤ n by omega) hil hlt
      have e2 := S.ent_le (show c ≤ n by omega) hlt hlt
      obtain ⟨h3, hs3, h3n, h30, h3o⟩ := f72_shr (X := X') (Y := X c) (id := 0) (jd := J) (i := i) (c := c) (N := n + 1) (row := true) hJ0 hi6 hN7 (by omega)
        (fun k hk => by rw [hXi k (by omega)]; exact hbd i hil k hk) (fun k hk => by rw [hXc k (by omega)]; exact hbd c hlt k hk)
        (by rw [hv]; omega) (by rw [hXc c (by omega)]; omega) (by omega) n rfl h (by omega) (by omega) b0 bJ
      have hc72 := fun K => CallW_shr (K := K) 72 _ rfl hs3
      have hsl2 := sliceC_row X' 0 i (n + 1) false hi6 hN7
      rw [hcast] at hsl2
      simp (disch := first | (simp only [go_sem, gb0, eq_self]; done) | omega | (simp only [gl1, gl2]; omega)) only [go_sem, ↓reduceIte, Nat.reduceEqDiff, Nat.reduceAdd, Nat.reduceMul, Nat.reduceSub, Int.reduceToNat, Nat.reduceBEq, s1, s2, s4, s11, s5, s7, s12, s44, s45, hil, hic, hi6, hi6', hc7, hc7', b0, hv0, hN7, hN7', hsl2, hc72, List.cons_append, List.nil_append]
      rw [ForK_normal]
      refine ⟨hil, by simp (disch := first | (simp only [go_sem, gb0, eq_self]; done) | omega | (simp only [gl1, gl2]; omega)) only [go_sem, ↓reduceIte, Nat.reduceEqDiff, Nat.reduceAdd, Nat.reduceMul, Nat.reduceSub, Int.reduceToNat, Nat.reduceBEq, s45], by simp (disch := first | (simp only [go_sem, gb0, eq_self]; done) | omega | (simp only [gl1, gl2]; omega)) only [go_sem, ↓reduceIte, Nat.reduceEqDiff, Nat.reduceAdd, Nat.reduceMul, Nat.reduceSub, Int.reduceToNat, Nat.reduceBEq, s1], by simp (disch := first | (simp only [go_sem, gb0, eq_self]; done) | omega | (simp only [gl1, gl2]; omega)) only [go_sem, ↓reduceIte, Nat.reduceEqDiff, Nat.reduceAdd, Nat.reduceMul, Nat.reduceSub, Int.reduceToNat, Nat.reduceBEq, s2], by simp (disch := first | (simp only [go_sem, gb0, eq_self]; done) | omega | (simp only [gl1, gl2]; omega)) only [go_sem, ↓reduceIte, Nat.reduceEqDiff, Nat.reduceAdd, Nat.reduceMul, Nat.reduceSub, Int.reduceToNat, Nat.reduceBEq, s4], by simp (disch := first | (simp only [go_sem, gb0, eq_self]; done) | omega | (simp only [gl1, gl2]; omega)) only [go_sem, ↓reduceIte, Nat.reduceEqDiff, Nat.reduceAdd, Nat.reduceMul, Nat.reduceSub, Int.reduceToNat, Nat.reduceBEq, s11], by simp (disch := first | (simp only [go_sem, gb0, eq_self]; done) | omega | (simp only [gl1, gl2]; omega)) only [go_sem, ↓reduceIte, Nat.reduceEqDiff, Nat.reduceAdd, Nat.reduceMul, Nat.reduceSub, Int.reduceToNat, Nat.reduceBEq, s5], by simp (disch := first | (simp only [go_sem, gb0, eq_self]; done) | omega | (simp only [gl1, gl2]; omega)) only [go_sem, ↓reduceIte, Nat.reduceEqDiff, Nat.reduceAdd, Nat.reduceMul, Nat.reduceSub, Int.reduceToNat, Nat.reduceBEq, s7], by simp (disch := first | (simp only [go_sem, gb0, eq_self]; done) | omega | (simp only [gl1, gl2]; omega)) only [go_sem, ↓reduceIte, Nat.reduceEqDiff, Nat.reduceAdd, Nat.reduceMul, Nat.reduceSub, Int.reduceToNat, Nat.reduceBEq, s12], by simp (disch := first | (simp only [go_sem, gb0, eq_self]; done) | omega | (simp only [gl1, gl2]; omega)) only [go_sem, ↓reduceIte, Nat.reduceEqDiff, Nat.reduceAdd, Nat.reduceMul, Nat.reduceSub, Int.reduceToNat, Nat.reduceBEq, s44], by omega, (h3o J hJ0').trans bJ, _, h30, fun r k hr hk => ?_⟩
      unfold rowM
      by_cases h2 : r = i
      · subst h2
        rw [if_pos ⟨rfl, by omega⟩, if_pos (by omega), hstep]
        unfold stepE
        rw [if_neg (by rintro (h | h); exact hic h; exact hz h)]
        exact elimP_congr (by omega) hXi hXc k hk
      · rw [if_neg (by omega), hX' r k hr hk]
        by_cases h1 : r < i
        · rw [if_pos h1, if_pos (by omega)]
        · rw [if_neg h1, if_neg (by omega)]
    · rintro st h ⟨s1, s2, s4, s11, s12, hn2, X', b0, hX'⟩
      simp (disch := first | (simp only [go_sem, gb0, eq_self]; done) | omega | (simp only [gl1, gl2]; omega)) only [go_sem, ↓reduceIte, Nat.reduceEqDiff, Nat.reduceAdd, Nat.reduceMul, Nat.reduceSub, Int.reduceToNat, Nat.reduceBEq, s1, s2, s4, s11, s12]
      rw [ForK_normal]
      exact ⟨hlt, by simp (disch := first | (simp only [go_sem, gb0, eq_self]; done) | omega | (simp only [gl1, gl2]; omega)) only [go_sem, ↓reduceIte, Nat.reduceEqDiff, Nat.reduceAdd, Nat.reduceMul, Nat.reduceSub, Int.reduceToNat, Nat.reduceBEq, s12], by simp (disch := first | (simp only [go_sem, gb0, eq_self]; done) | omega | (simp only [gl1, gl2]; omega)) only [go_sem, ↓reduceIte, Nat.reduceEqDiff, Nat.reduceAdd, Nat.reduceMul, Nat.reduceSub, Int.reduceToNat, Nat.reduceBEq, s1], by simp (disch := first | (simp only [go_sem, gb0, eq_self]; done) | omega | (simp only [gl1, gl2]; omega)) only [go_sem, ↓reduceIte, Nat.reduceEqDiff, Nat.reduceAdd, Nat.reduceMul, Nat.reduceSub, Int.reduceToNat, Nat.reduceBEq, s2], by simp (disch := first | (simp only [go_sem, gb0, eq_self]; done) | omega | (simp only [gl1, gl2]; omega)) only [go_sem, ↓reduceIte, Nat.reduceEqDiff, Nat.reduceAdd, Nat.reduceMul, Nat.reduceSub, Int.reduceToNat, Nat.reduceBEq, s4], by simp (disch := first | (simp only [go_sem, gb0, eq_self]; done) | omega | (simp only [gl1, gl2]; omega)) only [go_sem, ↓reduceIte, Nat.reduceEqDiff, Nat.reduceAdd, Nat.reduceMul, Nat.reduceSub, Int.reduceToNat, Nat.reduceBEq, s11], X', b0, by omega, hX'⟩
  · rintro st h ⟨s1, s2, X, b0, hnx, hX⟩
    have St := S.stage n (Nat.le_refl _)
    obtain ⟨fr, hfr⟩ : ∃ fr : Nat → Int × Int, fr = fun i => rdP (VN nx.length (wF nx) (pF pay) (pF cost) (ruleB x) i) (DN nx.length (wF nx) (pF pay) (pF cost) (ruleB x)) := ⟨_, rfl⟩
    have hval : valL nx pay cost x = (List.range n).map fr := by rw [hfr, valL, hn]
    simp (disch := first | (simp only [go_sem, gb0, eq_self]; done) | omega | (simp only [gl1, gl2]; omega)) only [go_sem, ↓reduceIte, Nat.reduceEqDiff, Nat.reduceAdd, Nat.reduceMul, Nat.reduceSub, Int.reduceToNat, Nat.reduceBEq, s1, s2]
    refine WP_cut (fun st h => ∃ v, st 9 = v ∧ Go.Am.Own eP 2 h v ((List.range n).map fr)) ?_ ?_
    · refine WP_for 70 n (fun i st h => st 1 = I n ∧ st 2 = .ptr 0 0 ∧ st 69 = I n ∧ 0 < h.nx ∧ h.bl 0 = some (.cells false false (matA X)) ∧ ∃ v, st 9 = v ∧ Go.Am.Own eP 2 h v ((List.range i).map fr)) (by simp (disch := first | (simp only [go_sem, gb0, eq_self]; done) | omega | (simp only [gl1, gl2]; omega)) only [go_sem, ↓reduceIte, Nat.reduceEqDiff, Nat.reduceAdd, Nat.reduceMul, Nat.reduceSub, Int.reduceToNat, Nat.reduceBEq]) ⟨by simp (disch := first | (simp only [go_sem, gb0, eq_self]; done) | omega | (simp only [gl1, gl2]; omega)) only [go_sem, ↓reduceIte, Nat.reduceEqDiff, Nat.reduceAdd, Nat.reduceMul, Nat.reduceSub, Int.reduceToNat, Nat.reduceBEq, s1], by simp (disch := first | (simp only [go_sem, gb0, eq_self]; done) | omega | (simp only [gl1, gl2]; omega)) only [go_sem, ↓reduceIte, Nat.reduceEqDiff, Nat.reduceAdd, Nat.reduceMul, Nat.reduceSub, Int.reduceToNat, Nat.reduceBEq, s2], by simp (disch := first | (simp only [go_sem, gb0, eq_self]; done) | omega | (simp only [gl1, gl2]; omega)) only [go_sem, ↓reduceIte, Nat.reduceEqDiff, Nat.reduceAdd, Nat.reduceMul, Nat.reduceSub, Int.reduceToNat, Nat.reduceBEq], hnx, b0, .nil, by simp (disch := first | (simp only [go_sem, gb0, eq_self]; done) | omega | (simp only [gl1, gl2]; omega)) only [go_sem, ↓reduceIte, Nat.reduceEqDiff, Nat.reduceAdd, Nat.reduceMul, Nat.reduceSub, Int.reduceToNat, Nat.reduceBEq], .inl ⟨rfl, rfl⟩⟩ ?_
      rintro i st h hi s70 ⟨s1, s2, s69, hnx, b0, v, s9, ov⟩
      by_cases hil : i < n
      case neg =>
        have hie : i = n := by omega
        subst hie
        simp (disch := first | (simp only [go_sem, gb0, eq_self]; done) | omega | (simp only [gl1, gl2]; omega)) only [go_sem, ↓reduceIte, Nat.reduceEqDiff, Nat.reduceAdd, Nat.reduceMul, Nat.reduceSub, Int.reduceToNat, Nat.reduceBEq, s1, s2, s69, s70, s9, hil]
        exact ⟨_, rfl, ov⟩
      have hd := St.diag hil
      have hB1 := S.diag_le (Nat.le_refl n) hil
      have hB2 := S.const_le (Nat.le_refl n) hil
      have hbE : bE n ≤ 262144 := by
        have h1 : (8 : Nat) ^ n ≤ 8 ^ 6 := Nat.pow_le_pow_right (by decide) (by omega)
        have h2 : ((8 ^ n : Nat) : Int) = bE n := by simp [bE]
        have : (8 : Nat) ^ 6 = 262144 := by decide
        omega
      have hbC : bC n ≤ 3188646000 := by
        have h1 : (9 : Nat) ^ n ≤ 9 ^ 6 := Nat.pow_le_pow_right (by decide) (by omega)
        have h3 : n * (1000 * 9 ^ n) ≤ 6 * (1000 * 9 ^ 6) := Nat.mul_le_mul (by omega) (Nat.mul_le_mul_left _ h1)
        have h2 : ((n * (1000 * 9 ^ n) : Nat) : Int) = bC n := by simp [bC]
        have : 6 * (1000 * 9 ^ 6) = 3188646000 := by decide
        omega
      have kr := fun h h' K => k70 (h := h) (h' := h') (K := K) (X i n) (X i i) (by rw [hX i n hil (Nat.le_refl _)]; simp only [big]; omega) (by rw [hX i i hil (by omega)]; simp only [big]; omega) (by rw [hX i i hil (by omega)]; omega)
      have hout := out_val C.chn hs (i := i) (by omega)
      have hr : rdP (X i n) (X i i) = fr i := by
        rw [hX i n hil (Nat.le_refl _), hX i i hil (by omega), hfr, hM, hn]; exact hout
      rw [hr] at kr
      have hi6 : i < 6 := by omega
      have hi6' : (i : Int) < 6 := by omega
      have hi7 : i < 7 := by omega
      have hi7' : (i : Int) < 7 := by omega
      have hn7 : n < 7 := by omega
      have hn7' : (n : Int) < 7 := by omega
      have hbs := fun h => bsB_pair (P := Try.prog) (h := h) 37 (fr i).1 (fr i).2 0 0 isz37 izero37
      have happ := app_pair (P := Try.prog) ov 37 16 (.agg [I 0, I 0]) (fr i).1 (fr i).2 isz37 ibytes37 izero37 rfl (by simp; omega) (by simp; omega)
      have hown := own_ne ov b0
      simp (disch := first | (simp only [go_sem, gb0, eq_self]; done) | omega | (simp only [gl1, gl2]; omega)) only [go_sem, ↓reduceIte, Nat.reduceEqDiff, Nat.reduceAdd, Nat.reduceMul, Nat.reduceSub, Int.reduceToNat, Nat.reduceBEq, s1, s2, s69, s70, s9, hil, hi6, hi6', hi7, hi7', hn7, hn7', b0, hnx, kr, hbs, happ]
      rw [ForK_normal]
      refine ⟨hil, by simp (disch := first | (simp only [go_sem, gb0, eq_self]; done) | omega | (simp only [gl1, gl2]; omega)) only [go_sem, ↓reduceIte, Nat.reduceEqDiff, Nat.reduceAdd, Nat.reduceMul, Nat.reduceSub, Int.reduceToNat, Nat.reduceBEq, s70], by simp (disch := first | (simp only [go_sem, gb0, eq_self]; done) | omega | (simp only [gl1, gl2]; omega)) only [go_sem, ↓reduceIte, Nat.reduceEqDiff, Nat.reduceAdd, Nat.reduceMul, Nat.reduceSub, Int.reduceToNat, Nat.reduceBEq, s1], by simp (disch := first | (simp only [go_sem, gb0, eq_self]; done) | omega | (simp only [gl1, gl2]; omega)) only [go_sem, ↓reduceIte, Nat.reduceEqDiff, Nat.reduceAdd, Nat.reduceMul, Nat.reduceSub, Int.reduceToNat, Nat.reduceBEq, s2], by simp (disch := first | (simp only [go_sem, gb0, eq_self]; done) | omega | (simp only [gl1, gl2]; omega)) only [go_sem, ↓reduceIte, Nat.reduceEqDiff, Nat.reduceAdd, Nat.reduceMul, Nat.reduceSub, Int.reduceToNat, Nat.reduceBEq, s69], by rw [appH_nx]; omega, ?_, _, by simp (disch := first | (simp only [go_sem, gb0, eq_self]; done) | omega | (simp only [gl1, gl2]; omega)) only [go_sem, ↓reduceIte, Nat.reduceEqDiff, Nat.reduceAdd, Nat.reduceMul, Nat.reduceSub, Int.reduceToNat, Nat.reduceBEq]; rfl, ?_⟩
      · rw [appH_bl _ _ _ _ hnx hown]; exact b0
      · rw [← rows_snoc]
        exact Own.app _ _ _
    · rintro st h ⟨v, s9, ov⟩
      simp (disch := first | (simp only [go_sem, gb0, eq_self]; done) | omega | (simp only [gl1, gl2]; omega)) only [go_sem, ↓reduceIte, Nat.reduceEqDiff, Nat.reduceAdd, Nat.reduceMul, Nat.reduceSub, Int.reduceToNat, Nat.reduceBEq, s9]
      rw [hval]
      exact export_Own (f := eP) 28 ov
end Go.Proofs.Ytgamcclfdkpcgaa

set_option linter.unusedVariables false
set_option linter.unusedSimpArgs false
set_option maxRecDepth 10000
namespace Go.Proofs.Ytgamcclfdkpcgaa
open Go Go.Am

variable {h h' : Hp} {K : AV → Hp → Prop}

/-- Six bools. -/
def bolA (L : Nat → Bool) : List AV := (List.range 6).map fun k => .bool (L k)
def setB (L : Nat → Bool) (i : Nat) (v : Bool) : Nat → Bool := fun k => if k = i then v else L k
theorem bolA_len (L : Nat → Bool) : (bolA L).length = 6 := by simp [bolA]
@[go_sem] theorem bolA_get (L : Nat → Bool) (i : Nat) (hi : i < 6) : (bolA L)[i]? = some (.bool (L i)) := by
  rw [bolA, List.getElem?_map, List.getElem?_range hi]; rfl
@[go_sem] theorem bolA_store (L : Nat → Bool) (id i : Nat) (v : Bool) (hi : i < 6) : storeC h id i 1 (some (.cells false false (bolA L))) [.bool v] = some (.skp, h.put id (some (.cells false false (bolA (setB L i v))))) := by
  rw [storeC_one id _ false _ (.bool v) rfl (by rw [bolA_len]; omega)]
  congr 5
  refine List.ext_getElem? fun k => ?_
  rw [List.getElem?_set]
  by_cases hk : k < 6
  · by_cases e : i = k
    · subst e
      rw [if_pos rfl, if_pos (by rw [bolA_len]; omega), bolA_get _ _ hk]
      simp [setB]
    · rw [if_neg e, bolA_get _ _ hk, bolA_get _ _ hk]
      simp [setB, Ne.symm e]
  · rw [if_neg (by omega), List.getElem?_eq_none (by rw [bolA_len]; omega), List.getElem?_eq_none (by rw [bolA_len]; omega)]
theorem setB_at (L : Nat → Bool) (i : Nat) (v : Bool) : setB L i v i = v := by simp [setB]
theorem setB_twice (L : Nat → Bool) (i : Nat) (u v : Bool) : setB (setB L i u) i v = setB L i v := by
  funext k; unfold setB; split <;> rfl
theorem setB_same {L : Nat → Bool} {i : Nat} {v : Bool} (h : L i = v) : setB L i v = L := by
  funext k; unfold setB; split
  · rename_i e; rw [e, h]
  · rfl
theorem uR_bol (n x : Nat) : (ruleN n n x).flatMap (e1 AV.bool) = bolA fun k => if k < n then ruleB x k else false := by
  refine List.ext_getElem? fun k => ?_
  by_cases hk : k < 6
  · have hl := ruleN_len n n x
    rw [bolA_get _ _ hk, flat_bools _ _ (by omega), ruleN, fillR_nth hk]; rfl
  · rw [List.getElem?_eq_none (by rw [flat_len, ruleN_len]; omega), List.getElem?_eq_none (by rw [bolA_len]; omega)]

/-- A set that is never left. -/
def closed (n : Nat) (w : Mat) (r S : Nat → Bool) : Prop := ∀ i, i < n → S i = true → r i = false ∧ sumN (w i) n = 4 ∧ ∀ j, j < n → 0 < w i j → S j = true
/-- From these the rule or the end is reached. -/
structure Left (n : Nat) (w : Mat) (r L : Nat → Bool) : Prop where
  ok : ∀ S, closed n w r S → ∀ i, i < n → L i = true → S i = false
  r : ∀ i, i < n → r i = true → L i = true
/-- Nothing more is reached. -/
def stab (n : Nat) (w : Mat) (L : Nat → Bool) (m : Nat) : Prop := ∀ i, i < m → L i = false → sumN (w i) n = 4 ∧ ∀ j, j < n → 0 < w i j → L j = false
def cntF (L : Nat → Bool) : Nat := ((List.range 6).filter fun k => !L k).length
theorem cntF_set {L : Nat → Bool} {i : Nat} (hi : i < 6) (h : L i = false) : cntF (setB L i true) < cntF L := by
  refine filter_lt (y := i) (fun k _ hk => ?_) (List.mem_range.2 hi) (by simp [setB]) (by simp [h])
  by_cases e : k = i
  · subst e; simp [setB] at hk
  · simpa [setB, e] using hk
theorem Left.sound {n : Nat} {w : Mat} {r L : Nat → Bool} (l : Left n w r L) (s : stab n w L n) : sndP n w r ↔ ∀ i, i < n → L i = true := by
  constructor
  · intro h i hi
    cases hl : L i with
    | true => rfl
    | false =>
      have := h (fun k => !L k) (fun k hk hs => by
        have hlk : L k = false := by simpa using hs
        obtain ⟨a, b⟩ := s k hk hlk
        refine ⟨?_, a, fun j hj hw => by simp [b j hj hw]⟩
        cases hr : r k with
        | false => rfl
        | true => rw [l.r k hk hr] at hlk; cases hlk) i hi
      simp [hl] at this
  · intro h S hS i hi
    exact l.ok S hS i hi (h i hi)
/-- Some state that is reached leads there, or the end does. -/
def leads (w : Mat) (L : Nat → Bool) (i m : Nat) : Bool := (List.range m).any fun j => decide (0 < w i j) && L j
theorem leads_step (w : Mat) (L : Nat → Bool) (i m : Nat) : leads w L i (m + 1) = (leads w L i m || (decide (0 < w i m) && L m)) := by
  unfold leads; rw [List.range_succ, List.any_append]; simp
theorem leads_no {w : Mat} {L : Nat → Bool} {i m : Nat} (h : leads w L i m = false) : ∀ j, j < m → 0 < w i j → L j = false := fun j hj hw => by
  have := List.any_eq_false.1 h j (List.mem_range.2 hj)
  simpa [hw] using this
theorem leads_yes {w : Mat} {L : Nat → Bool} {i m : Nat} (h : leads w L i m = true) : ∃ j, j < m ∧ 0 < w i j ∧ L j = true := by
  obtain ⟨j, hj, hb⟩ := List.any_eq_true.1 h
  simp only [Bool.and_eq_true, decide_eq_true_eq] at hb
  exact ⟨j, List.mem_range.1 hj, hb⟩
theorem Left.grow {n : Nat} {w : Mat} {p c : Nat → Int} {r L : Nat → Bool} (C : Chn n w p c) (l : Left n w r L) {i : Nat} (hi : i < n) (h : (leads w L i n || decide (sumN (w i) n < 4)) = true) : Left n w r (setB L i true) := by
  refine ⟨fun S hS k hk hl => ?_, fun k hk hr => ?_⟩
  · by_cases e : k = i
    · subst e
      cases hsk : S k with
      | false => rfl
      | true =>
        obtain ⟨_, a, b⟩ := hS k hk hsk
        rw [Bool.or_eq_true] at h
        rcases h with h | h
        · obtain ⟨j, hj, hw, hlj⟩ := leads_yes h
          have := l.ok S hS j hj hlj
          rw [b j hj hw] at this; cases this
        · have := of_decide_eq_true h; omega
    · refine l.ok S hS k hk ?_
      simpa [setB, e] using hl
  · unfold setB; split
    · rfl
    · exact l.r k hk hr

theorem f54_con {nx : List (List Int)} {pay cost : List Int} (C : okC nx pay cost) (x : Nat) : Con Try.prog cfg 54 [chA nx pay cost, uR nx.length x] (.bool (sndB nx.length (wF nx) x)) := by
  obtain ⟨n, hn⟩ : ∃ n, n = nx.length := ⟨_, rfl⟩
  have hn1 := C.n1
  have hn6 := C.n6
  have hal : ∀ g : Hp, allocB g (some (chA nx pay cost)) = some (.ptr g.nx 0, g.alloc (.cells false false [LLI nx, LI pay, LI cost])) := fun g => allocB_agg _ rfl
  have bolA_cell : ∀ L, (bolA L).all AV.isCell = true := fun L => List.all_eq_true.2 fun y hy => by obtain ⟨k, _, rfl⟩ := List.mem_map.1 hy; rfl
  obtain ⟨L0, hL0⟩ : ∃ L0, L0 = fun k => if k < n then ruleB x k else false := ⟨_, rfl⟩
  have hu : uR nx.length x = .agg (bolA L0) := by rw [uR, uR_bol, hL0, hn]
  have hal2 : ∀ g : Hp, allocB g (some (.agg (bolA L0))) = some (.ptr g.nx 0, g.alloc (.cells false false (bolA L0))) := fun g => allocB_agg _ (bolA_cell _)
  have hld : ∀ L, loadC (some (.array 6 4)) (some 6) (some (bolA L, 0)) = some (.agg (bolA L)) := fun L => by
    have := loadC_agg (.array 6 4) 6 rfl (bolA L) 0 (by rw [bolA_len]; omega)
    rw [this, List.drop_zero, List.take_of_length_le (by rw [bolA_len]; omega)]
  have hst : ∀ (g : Hp) (id : Nat) (flat : List AV), flat.length = 6 → storeC g id 0 6 (some (.cells false false flat)) (bolA L0) = some (.skp, g.put id (some (.cells false false (bolA L0)))) := fun g id flat hl => by
    rw [storeC_many id 0 6 false _ _ (bolA_len _) (bolA_cell _) (by omega)]
    have := setL_all flat (bolA L0) [] (by rw [bolA_len, hl])
    simp only [List.nil_append, List.length_nil] at this
    rw [this]
  have hLL : Left n (wF nx) (ruleB x) L0 := by
    refine ⟨fun S hS i hi hl => ?_, fun i hi hr => by rw [hL0]; simp [hi, hr]⟩
    rw [hL0] at hl
    simp only [hi, if_true] at hl
    cases hsi : S i with
    | false => rfl
    | true => have := (hS i hi hsi).1; rw [hl] at this; cases this
  rw [hu]
  refine Con_intro Try.func54 rfl ok54 (Nat.le_of_ble_eq_true rfl) rfl ?_
  simp only [Try.f54, Option.getD_some, initSt2]
  have hst0 := fun g id => hst g id [.bool false, .bool false, .bool false, .bool false, .bool false, .bool false] rfl
  simp (disch := first | (simp only [go_sem, gb0, eq_self]; done) | omega | (simp only [gl1, gl2]; omega)) only [go_sem, ↓reduceIte, Nat.reduceEqDiff, Nat.reduceAdd, Nat.reduceMul, Nat.reduceSub, Int.reduceToNat, Nat.reduceBEq, hal, hal2, hld, hst0]
  have hnn : ∀ i : Nat, i < n → i < nx.length ∧ i < 6 ∧ (i : Int) < 6 ∧ (i : Int) < nx.length := fun i hi => by omega
  refine WP_cut (fun st h => st 2 = .ptr 0 0 ∧ st 5 = .ptr 2 0 ∧ h.nx = 3 ∧ h.bl 0 = some (.cells false false [LLI nx, LI pay, LI cost]) ∧ ∃ L, h.bl 2 = some (.cells false false (bolA L)) ∧ Left n (wF nx) (ruleB x) L ∧ stab n (wF nx) L n) ?_ ?_
  · refine WP_loopK (fun m st h => ∃ (g : Bool) (L : Nat → Bool), m = (if g then cntF L + 1 else 0) ∧ st 2 = .ptr 0 0 ∧ st 5 = .ptr 2 0 ∧ st 6 = .bool g ∧ h.nx = 3 ∧ h.bl 0 = some (.cells false false [LLI nx, LI pay, LI cost]) ∧ h.bl 2 = some (.cells false false (bolA L)) ∧ Left n (wF nx) (ruleB x) L ∧ (g = false → stab n (wF nx) L n)) (cntF L0 + 1)
      ⟨true, L0, rfl, by simp (disch := first | (simp only [go_sem, gb0, eq_self]; done) | omega | (simp only [gl1, gl2]; omega)) only [go_sem, ↓reduceIte, Nat.reduceEqDiff, Nat.reduceAdd, Nat.reduceMul, Nat.reduceSub, Int.reduceToNat, Nat.reduceBEq], by simp (disch := first | (simp only [go_sem, gb0, eq_self]; done) | omega | (simp only [gl1, gl2]; omega)) only [go_sem, ↓reduceIte, Nat.reduceEqDiff, Nat.reduceAdd, Nat.reduceMul, Nat.reduceSub, Int.reduceToNat, Nat.reduceBEq], by simp (disch := first | (simp only [go_sem, gb0, eq_self]; done) | omega | (simp only [gl1, gl2]; omega)) only [go_sem, ↓reduceIte, Nat.reduceEqDiff, Nat.reduceAdd, Nat.reduceMul, Nat.reduceSub, Int.reduceToNat, Nat.reduceBEq], by simp (disch := first | (simp only [go_sem, gb0, eq_self]; done) | omega | (simp only [gl1, gl2]; omega)) only [go_sem, ↓reduceIte, Nat.reduceEqDiff, Nat.reduceAdd, Nat.reduceMul, Nat.reduceSub, Int.reduceToNat, Nat.reduceBEq], by simp (disch := first | (simp only [go_sem, gb0, eq_self]; done) | omega | (simp only [gl1, gl2]; omega)) only [go_sem, ↓reduceIte, Nat.reduceEqDiff, Nat.reduceAdd, Nat.reduceMul, Nat.reduceSub, Int.reduceToNat, Nat.reduceBEq], by simp (disch := first | (simp only [go_sem, gb0, eq_self]; done) | omega | (simp only [gl1, gl2]; omega)) only [go_sem, ↓reduceIte, Nat.reduceEqDiff, Nat.reduceAdd, Nat.reduceMul, Nat.reduceSub, Int.reduceToNat, Nat.reduceBEq], hLL, fun h => by cases h⟩ ?_
    rintro m st h ⟨g, L, rfl, s2, s5, s6, hnx, b0, b2, hL, hg⟩
    cases g with
    | false =>
      simp (disch := first | (simp only [go_sem, gb0, eq_self]; done) | omega | (simp only [gl1, gl2]; omega)) only [go_sem, ↓reduceIte, Nat.reduceEqDiff, Nat.reduceAdd, Nat.reduceMul, Nat.reduceSub, Int.reduceToNat, Nat.reduceBEq, s2, s5, s6]
      exact ⟨hnx, b0, L, b2, hL, hg rfl⟩
    | true =>
    simp (disch := first | (simp only [go_sem, gb0, eq_self]; done) | omega | (simp only [gl1, gl2]; omega)) only [go_sem, ↓reduceIte, Nat.reduceEqDiff, Nat.reduceAdd, Nat.reduceMul, Nat.reduceSub, Int.reduceToNat, Nat.reduceBEq, s2, s5, s6, b0]
    refine WP_cut (fun st h => st 2 = .ptr 0 0 ∧ st 5 = .ptr 2 0 ∧ h.nx = 3 ∧ h.bl 0 = some (.cells false false [LLI nx, LI pay, LI cost]) ∧ ∃ (g : Bool) (L' : Nat → Bool), st 6 = .bool g ∧ h.bl 2 = some (.cells false false (bolA L')) ∧ Left n (wF nx) (ruleB x) L' ∧ (g = true → cntF L' < cntF L) ∧ (g = false → stab n (wF nx) L' n)) ?_ ?_
    · refine WP_for 18 n (fun i st h => st 2 = .ptr 0 0 ∧ st 5 = .ptr 2 0 ∧ st 16 = LLI nx ∧ st 17 = I n ∧ h.nx = 3 ∧ h.bl 0 = some (.cells false false [LLI nx, LI pay, LI cost]) ∧ ∃ (g : Bool) (L' : Nat → Bool), st 6 = .bool g ∧ h.bl 2 = some (.cells false false (bolA L')) ∧ Left n (wF nx) (ruleB x) L' ∧ (g = true → cntF L' < cntF L) ∧ (g = false → L' = L ∧ stab n (wF nx) L i)) (by simp (disch := first | (simp only [go_sem, gb0, eq_self]; done) | omega | (simp only [gl1, gl2]; omega)) only [go_sem, ↓reduceIte, Nat.reduceEqDiff, Nat.reduceAdd, Nat.reduceMul, Nat.reduceSub, Int.reduceToNat, Nat.reduceBEq])
        ⟨by simp (disch := first | (simp only [go_sem, gb0, eq_self]; done) | omega | (simp only [gl1, gl2]; omega)) only [go_sem, ↓reduceIte, Nat.reduceEqDiff, Nat.reduceAdd, Nat.reduceMul, Nat.reduceSub, Int.reduceToNat, Nat.reduceBEq, s2], by simp (disch := first | (simp only [go_sem, gb0, eq_self]; done) | omega | (simp only [gl1, gl2]; omega)) only [go_sem, ↓reduceIte, Nat.reduceEqDiff, Nat.reduceAdd, Nat.reduceMul, Nat.reduceSub, Int.reduceToNat, Nat.reduceBEq, s5], by simp (disch := first | (simp only [go_sem, gb0, eq_self]; done) | omega | (simp only [gl1, gl2]; omega)) only [go_sem, ↓reduceIte, Nat.reduceEqDiff, Nat.reduceAdd, Nat.reduceMul, Nat.reduceSub, Int.reduceToNat, Nat.reduceBEq], by simp (disch := first | (simp only [go_sem, gb0, eq_self]; done) | omega | (simp only [gl1, gl2]; omega)) only [go_sem, ↓reduceIte, Nat.reduceEqDiff, Nat.reduceAdd, Nat.reduceMul, Nat.reduceSub, Int.reduceToNat, Nat.reduceBEq, hn], by simp (disch := first | (simp only [go_sem, gb0, eq_self]; done) | omega | (simp only [gl1, gl2]; omega)) only [go_sem, ↓reduceIte, Nat.reduceEqDiff, Nat.reduceAdd, Nat.reduceMul, Nat.reduceSub, Int.reduceToNat, Nat.reduceBEq, hnx], by simp (disch := first | (simp only [go_sem, gb0, eq_self]; done) | omega | (simp only [gl1, gl2]; omega)) only [go_sem, ↓reduceIte, Nat.reduceEqDiff, Nat.reduceAdd, Nat.reduceMul, Nat.reduceSub, Int.reduceToNat, Nat.reduceBEq, b0], false, L, by simp (disch := first | (simp only [go_sem, gb0, eq_self]; done) | omega | (simp only [gl1, gl2]; omega)) only [go_sem, ↓reduceIte, Nat.reduceEqDiff, Nat.reduceAdd, Nat.reduceMul, Nat.reduceSub, Int.reduceToNat, Nat.reduceBEq], by simp (disch := first | (simp only [go_sem, gb0, eq_self]; done) | omega | (simp only [gl1, gl2]; omega)) only [go_sem, ↓reduceIte, Nat.reduceEqDiff, Nat.reduceAdd, Nat.reduceMul, Nat.reduceSub, Int.reduceToNat, Nat.reduceBEq, b2], hL, fun h => (by cases h), fun _ => ⟨rfl, fun i hi => by omega⟩⟩ ?_
      rintro i st h hi s18 ⟨s2, s5, s16, s17, hnx, b0, g, L', s6, b2, hL', hg1, hg2⟩
      by_cases hlt : i < n
      case neg =>
        have hie : i = n := by omega
        subst hie
        simp (disch := first | (simp only [go_sem, gb0, eq_self]; done) | omega | (simp only [gl1, gl2]; omega)) only [go_sem, ↓reduceIte, Nat.reduceEqDiff, Nat.reduceAdd, Nat.reduceMul, Nat.reduceSub, Int.reduceToNat, Nat.reduceBEq, s2, s5, s16, s17, s18, s6, hlt]
        exact ⟨hnx, b0, g, L', rfl, b2, hL', hg1, fun h => by obtain ⟨e, s⟩ := hg2 h; rw [e]; exact s⟩
      obtain ⟨hi1, hi6, hi6', hi2⟩ := hnn i hlt
      cases hli : L' i with
      | true =>
        simp (disch := first | (simp only [go_sem, gb0, eq_self]; done) | omega | (simp only [gl1, gl2]; omega)) only [go_sem, ↓reduceIte, Nat.reduceEqDiff, Nat.reduceAdd, Nat.reduceMul, Nat.reduceSub, Int.reduceToNat, Nat.reduceBEq, s2, s5, s16, s17, s18, s6, hlt, hi1, hi2, hi6, hi6', b2, hli]
        rw [ForK_normal]
        refine ⟨hlt, by simp (disch := first | (simp only [go_sem, gb0, eq_self]; done) | omega | (simp only [gl1, gl2]; omega)) only [go_sem, ↓reduceIte, Nat.reduceEqDiff, Nat.reduceAdd, Nat.reduceMul, Nat.reduceSub, Int.reduceToNat, Nat.reduceBEq, s18], by simp (disch := first | (simp only [go_sem, gb0, eq_self]; done) | omega | (simp only [gl1, gl2]; omega)) only [go_sem, ↓reduceIte, Nat.reduceEqDiff, Nat.reduceAdd, Nat.reduceMul, Nat.reduceSub, Int.reduceToNat, Nat.reduceBEq, s2], by simp (disch := first | (simp only [go_sem, gb0, eq_self]; done) | omega | (simp only [gl1, gl2]; omega)) only [go_sem, ↓reduceIte, Nat.reduceEqDiff, Nat.reduceAdd, Nat.reduceMul, Nat.reduceSub, Int.reduceToNat, Nat.reduceBEq, s5], by simp (disch := first | (simp only [go_sem, gb0, eq_self]; done) | omega | (simp only [gl1, gl2]; omega)) only [go_sem, ↓reduceIte, Nat.reduceEqDiff, Nat.reduceAdd, Nat.reduceMul, Nat.reduceSub, Int.reduceToNat, Nat.reduceBEq, s16], by simp (disch := first | (simp only [go_sem, gb0, eq_self]; done) | omega | (simp only [gl1, gl2]; omega)) only [go_sem, ↓reduceIte, Nat.reduceEqDiff, Nat.reduceAdd, Nat.reduceMul, Nat.reduceSub, Int.reduceToNat, Nat.reduceBEq, s17], hnx, b0, g, L', by simp (disch := first | (simp only [go_sem, gb0, eq_self]; done) | omega | (simp only [gl1, gl2]; omega)) only [go_sem, ↓reduceIte, Nat.reduceEqDiff, Nat.reduceAdd, Nat.reduceMul, Nat.reduceSub, Int.reduceToNat, Nat.reduceBEq, s6], b2, hL', hg1, fun h => ?_⟩
        obtain ⟨e, s⟩ := hg2 h
        refine ⟨e, fun k hk hlk => ?_⟩
        by_cases hki : k = i
        · subst hki; rw [← e, hli] at hlk; cases hlk
        · exact s k (by omega) hlk
      | false =>
      have hrow := C.row i hi1
      simp (disch := first | (simp only [go_sem, gb0, eq_self]; done) | omega | (simp only [gl1, gl2]; omega)) only [go_sem, ↓reduceIte, Nat.reduceEqDiff, Nat.reduceAdd, Nat.reduceMul, Nat.reduceSub, Int.reduceToNat, Nat.reduceBEq, s2, s5, s16, s17, s18, s6, hlt, hi1, hi2, hi6, hi6', b2, hli]
      refine WP_cut (fun st h => st 2 = .ptr 0 0 ∧ st 5 = .ptr 2 0 ∧ st 6 = .bool g ∧ st 7 = I i ∧ st 16 = LLI nx ∧ st 17 = I n ∧ st 18 = I i ∧ st 9 = I (sumN (wF nx i) n) ∧ h.nx = 3 ∧ h.bl 0 = some (.cells false false [LLI nx, LI pay, LI cost]) ∧ h.bl 2 = some (.cells false false (bolA (setB L' i (leads (wF nx) L' i n))))) ?_ ?_
      · refine WP_for 28 n (fun m st h => st 2 = .ptr 0 0 ∧ st 5 = .ptr 2 0 ∧ st 6 = .bool g ∧ st 7 = I i ∧ st 16 = LLI nx ∧ st 17 = I n ∧ st 18 = I i ∧ st 26 = LI (nth nx i) ∧ st 27 = I n ∧ st 9 = I (sumN (wF nx i) m) ∧ h.nx = 3 ∧ h.bl 0 = some (.cells false false [LLI nx, LI pay, LI cost]) ∧ h.bl 2 = some (.cells false false (bolA (setB L' i (leads (wF nx) L' i m))))) (by simp (disch := first | (simp only [go_sem, gb0, eq_self]; done) | omega | (simp only [gl1, gl2]; omega)) only [go_sem, ↓reduceIte, Nat.reduceEqDiff, Nat.reduceAdd, Nat.reduceMul, Nat.reduceSub, Int.reduceToNat, Nat.reduceBEq])
          ⟨by simp (disch := first | (simp only [go_sem, gb0, eq_self]; done) | omega | (simp only [gl1, gl2]; omega)) only [go_sem, ↓reduceIte, Nat.reduceEqDiff, Nat.reduceAdd, Nat.reduceMul, Nat.reduceSub, Int.reduceToNat, Nat.reduceBEq, s2], by simp (disch := first | (simp only [go_sem, gb0, eq_self]; done) | omega | (simp only [gl1, gl2]; omega)) only [go_sem, ↓reduceIte, Nat.reduceEqDiff, Nat.reduceAdd, Nat.reduceMul, Nat.reduceSub, Int.reduceToNat, Nat.reduceBEq, s5], by simp (disch := first | (simp only [go_sem, gb0, eq_self]; done) | omega | (simp only [gl1, gl2]; omega)) only [go_sem, ↓reduceIte, Nat.reduceEqDiff, Nat.reduceAdd, Nat.reduceMul, Nat.reduceSub, Int.reduceToNat, Nat.reduceBEq, s6], by simp (disch := first | (simp only [go_sem, gb0, eq_self]; done) | omega | (simp only [gl1, gl2]; omega)) only [go_sem, ↓reduceIte, Nat.reduceEqDiff, Nat.reduceAdd, Nat.reduceMul, Nat.reduceSub, Int.reduceToNat, Nat.reduceBEq], by simp (disch := first | (simp only [go_sem, gb0, eq_self]; done) | omega | (simp only [gl1, gl2]; omega)) only [go_sem, ↓reduceIte, Nat.reduceEqDiff, Nat.reduceAdd, Nat.reduceMul, Nat.reduceSub, Int.reduceToNat, Nat.reduceBEq, s16], by simp (disch := first | (simp only [go_sem, gb0, eq_self]; done) | omega | (simp only [gl1, gl2]; omega)) only [go_sem, ↓reduceIte, Nat.reduceEqDiff, Nat.reduceAdd, Nat.reduceMul, Nat.reduceSub, Int.reduceToNat, Nat.reduceBEq, s17], by simp (disch := first | (simp only [go_sem, gb0, eq_self]; done) | omega | (simp only [gl1, gl2]; omega)) only [go_sem, ↓reduceIte, Nat.reduceEqDiff, Nat.reduceAdd, Nat.reduceMul, Nat.reduceSub, Int.reduceToNat, Nat.reduceBEq, s18], by simp (disch := first | (simp only [go_sem, gb0, eq_self]; done) | omega | (simp only [gl1, gl2]; omega)) only [go_sem, ↓reduceIte, Nat.reduceEqDiff, Nat.reduceAdd, Nat.reduceMul, Nat.reduceSub, Int.reduceToNat, Nat.reduceBEq], by (simp (disch := first | (simp only [go_sem, gb0, eq_self]; done) | omega | (simp only [gl1, gl2]; omega)) only [go_sem, ↓reduceIte, Nat.reduceEqDiff, Nat.reduceAdd, Nat.reduceMul, Nat.reduceSub, Int.reduceToNat, Nat.reduceBEq]; rw [hrow, hn]), by simp (disch := first | (simp only [go_sem, gb0, eq_self]; done) | omega | (simp only [gl1, gl2]; omega)) only [go_sem, ↓reduceIte, Nat.reduceEqDiff, Nat.reduceAdd, Nat.reduceMul, Nat.reduceSub, Int.reduceToNat, Nat.reduceBEq]; rfl, hnx, b0, by rw [show leads (wF nx) L' i 0 = false from rfl, setB_same hli]; exact b2⟩ ?_
        rintro m st h hm s28 ⟨s2, s5, s6, s7, s16, s17, s18, s26, s27, s9, hnx, b0, b2⟩
        by_cases hmn : m < n
        case neg =>
          have hme : m = n := by omega
          subst hme
          simp (disch := first | (simp only [go_sem, gb0, eq_self]; done) | omega | (simp only [gl1, gl2]; omega)) only [go_sem, ↓reduceIte, Nat.reduceEqDiff, Nat.reduceAdd, Nat.reduceMul, Nat.reduceSub, Int.reduceToNat, Nat.reduceBEq, s2, s5, s6, s7, s16, s17, s18, s9, s27, s28, hmn]
          exact ⟨hnx, b0, b2⟩
        obtain ⟨hm1, hm6, hm6', hm2⟩ := hnn m hmn
        have hmr : m < (nth nx i).length := by omega
        have hmr' : (m : Int) < (nth nx i).length := by omega
        have hwb := C.wb hi1 hm1
        have hsb := sumN_bounds (f := wF nx i) (lo := 0) (hi := 4) (n := m) fun k hk => C.wb hi1 (show k < nx.length by omega)
        have hst := leads_step (wF nx) L' i m
        have hs1 : sumN (wF nx i) (m + 1) = sumN (wF nx i) m + nth (nth nx i) m := rfl
        cases hb : leads (wF nx) L' i m with
        | true =>
          rw [hb] at b2 hst
          have hst2 : leads (wF nx) L' i (m + 1) = true := by rw [hst]; rfl
          have hat := setB_at L' i true
          have hse := setB_twice L' i true true
          simp (disch := first | (simp only [go_sem, gb0, eq_self]; done) | omega | (simp only [gl1, gl2]; omega)) only [go_sem, ↓reduceIte, Nat.reduceEqDiff, Nat.reduceAdd, Nat.reduceMul, Nat.reduceSub, Int.reduceToNat, Nat.reduceBEq, s2, s5, s6, s7, s16, s17, s18, s26, s27, s9, s28, hmn, hm6, hm6', hmr, hmr', hi6, hi6', b2, hat, hse]
          rw [ForK_normal]
          exact ⟨hmn, by simp (disch := first | (simp only [go_sem, gb0, eq_self]; done) | omega | (simp only [gl1, gl2]; omega)) only [go_sem, ↓reduceIte, Nat.reduceEqDiff, Nat.reduceAdd, Nat.reduceMul, Nat.reduceSub, Int.reduceToNat, Nat.reduceBEq, s28], by simp (disch := first | (simp only [go_sem, gb0, eq_self]; done) | omega | (simp only [gl1, gl2]; omega)) only [go_sem, ↓reduceIte, Nat.reduceEqDiff, Nat.reduceAdd, Nat.reduceMul, Nat.reduceSub, Int.reduceToNat, Nat.reduceBEq, s2], by simp (disch := first | (simp only [go_sem, gb0, eq_self]; done) | omega | (simp only [gl1, gl2]; omega)) only [go_sem, ↓reduceIte, Nat.reduceEqDiff, Nat.reduceAdd, Nat.reduceMul, Nat.reduceSub, Int.reduceToNat, Nat.reduceBEq, s5], by simp (disch := first | (simp only [go_sem, gb0, eq_self]; done) | omega | (simp only [gl1, gl2]; omega)) only [go_sem, ↓reduceIte, Nat.reduceEqDiff, Nat.reduceAdd, Nat.reduceMul, Nat.reduceSub, Int.reduceToNat, Nat.reduceBEq, s6], by simp (disch := first | (simp only [go_sem, gb0, eq_self]; done) | omega | (simp only [gl1, gl2]; omega)) only [go_sem, ↓reduceIte, Nat.reduceEqDiff, Nat.reduceAdd, Nat.reduceMul, Nat.reduceSub, Int.reduceToNat, Nat.reduceBEq, s7], by simp (disch := first | (simp only [go_sem, gb0, eq_self]; done) | omega | (simp only [gl1, gl2]; omega)) only [go_sem, ↓reduceIte, Nat.reduceEqDiff, Nat.reduceAdd, Nat.reduceMul, Nat.reduceSub, Int.reduceToNat, Nat.reduceBEq, s16], by simp (disch := first | (simp only [go_sem, gb0, eq_self]; done) | omega | (simp only [gl1, gl2]; omega)) only [go_sem, ↓reduceIte, Nat.reduceEqDiff, Nat.reduceAdd, Nat.reduceMul, Nat.reduceSub, Int.reduceToNat, Nat.reduceBEq, s17], by simp (disch := first | (simp only [go_sem, gb0, eq_self]; done) | omega | (simp only [gl1, gl2]; omega)) only [go_sem, ↓reduceIte, Nat.reduceEqDiff, Nat.reduceAdd, Nat.reduceMul, Nat.reduceSub, Int.reduceToNat, Nat.reduceBEq, s18], by simp (disch := first | (simp only [go_sem, gb0, eq_self]; done) | omega | (simp only [gl1, gl2]; omega)) only [go_sem, ↓reduceIte, Nat.reduceEqDiff, Nat.reduceAdd, Nat.reduceMul, Nat.reduceSub, Int.reduceToNat, Nat.reduceBEq, s26], by simp (disch := first | (simp only [go_sem, gb0, eq_self]; done) | omega | (simp only [gl1, gl2]; omega)) only [go_sem, ↓reduceIte, Nat.reduceEqDiff, Nat.reduceAdd, Nat.reduceMul, Nat.reduceSub, Int.reduceToNat, Nat.reduceBEq, s27], by (rw [hs1]; simp (disch := first | (simp only [go_sem, gb0, eq_self]; done) | omega | (simp only [gl1, gl2]; omega)) only [go_sem, ↓reduceIte, Nat.reduceEqDiff, Nat.reduceAdd, Nat.reduceMul, Nat.reduceSub, Int.reduceToNat, Nat.reduceBEq]), hnx, by simp (disch := first | (simp only [go_sem, gb0, eq_self]; done) | omega | (simp only [gl1, gl2]; omega)) only [go_sem, ↓reduceIte, Nat.reduceEqDiff, Nat.reduceAdd, Nat.reduceMul, Nat.reduceSub, Int.reduceToNat, Nat.reduceBEq, b0], by (rw [hst2]; simp (disch := first | (simp only [go_sem, gb0, eq_self]; done) | omega | (simp only [gl1, gl2]; omega)) only [go_sem, ↓reduceIte, Nat.reduceEqDiff, Nat.reduceAdd, Nat.reduceMul, Nat.reduceSub, Int.reduceToNat, Nat.reduceBEq])⟩
        | false =>
          rw [hb, setB_same hli] at b2
          rw [hb] at hst
          by_cases hw : 0 < nth (nth nx i) m
          · have hst2 : leads (wF nx) L' i (m + 1) = L' m := by rw [hst]; show (false || (decide (0 < nth (nth nx i) m) && L' m)) = L' m; simp [hw]
            cases hLm : L' m with
            | true =>
              rw [hLm] at hst2
              simp (disch := first | (simp only [go_sem, gb0, eq_self]; done) | omega | (simp only [gl1, gl2]; omega)) only [go_sem, ↓reduceIte, Nat.reduceEqDiff, Nat.reduceAdd, Nat.reduceMul, Nat.reduceSub, Int.reduceToNat, Nat.reduceBEq, s2, s5, s6, s7, s16, s17, s18, s26, s27, s9, s28, hmn, hm6, hm6', hmr, hmr', hi6, hi6', b2, hli, hw, hLm]
              rw [ForK_normal]
              exact ⟨hmn, by simp (disch := first | (simp only [go_sem, gb0, eq_self]; done) | omega | (simp only [gl1, gl2]; omega)) only [go_sem, ↓reduceIte, Nat.reduceEqDiff, Nat.reduceAdd, Nat.reduceMul, Nat.reduceSub, Int.reduceToNat, Nat.reduceBEq, s28], by simp (disch := first | (simp only [go_sem, gb0, eq_self]; done) | omega | (simp only [gl1, gl2]; omega)) only [go_sem, ↓reduceIte, Nat.reduceEqDiff, Nat.reduceAdd, Nat.reduceMul, Nat.reduceSub, Int.reduceToNat, Nat.reduceBEq, s2], by simp (disch := first | (simp only [go_sem, gb0, eq_self]; done) | omega | (simp only [gl1, gl2]; omega)) only [go_sem, ↓reduceIte, Nat.reduceEqDiff, Nat.reduceAdd, Nat.reduceMul, Nat.reduceSub, Int.reduceToNat, Nat.reduceBEq, s5], by simp (disch := first | (simp only [go_sem, gb0, eq_self]; done) | omega | (simp only [gl1, gl2]; omega)) only [go_sem, ↓reduceIte, Nat.reduceEqDiff, Nat.reduceAdd, Nat.reduceMul, Nat.reduceSub, Int.reduceToNat, Nat.reduceBEq, s6], by simp (disch := first | (simp only [go_sem, gb0, eq_self]; done) | omega | (simp only [gl1, gl2]; omega)) only [go_sem, ↓reduceIte, Nat.reduceEqDiff, Nat.reduceAdd, Nat.reduceMul, Nat.reduceSub, Int.reduceToNat, Nat.reduceBEq, s7], by simp (disch := first | (simp only [go_sem, gb0, eq_self]; done) | omega | (simp only [gl1, gl2]; omega)) only [go_sem, ↓reduceIte, Nat.reduceEqDiff, Nat.reduceAdd, Nat.reduceMul, Nat.reduceSub, Int.reduceToNat, Nat.reduceBEq, s16], by simp (disch := first | (simp only [go_sem, gb0, eq_self]; done) | omega | (simp only [gl1, gl2]; omega)) only [go_sem, ↓reduceIte, Nat.reduceEqDiff, Nat.reduceAdd, Nat.reduceMul, Nat.reduceSub, Int.reduceToNat, Nat.reduceBEq, s17], by simp (disch := first | (simp only [go_sem, gb0, eq_self]; done) | omega | (simp only [gl1, gl2]; omega)) only [go_sem, ↓reduceIte, Nat.reduceEqDiff, Nat.reduceAdd, Nat.reduceMul, Nat.reduceSub, Int.reduceToNat, Nat.reduceBEq, s18], by simp (disch := first | (simp only [go_sem, gb0, eq_self]; done) | omega | (simp only [gl1, gl2]; omega)) only [go_sem, ↓reduceIte, Nat.reduceEqDiff, Nat.reduceAdd, Nat.reduceMul, Nat.reduceSub, Int.reduceToNat, Nat.reduceBEq, s26], by simp (disch := first | (simp only [go_sem, gb0, eq_self]; done) | omega | (simp only [gl1, gl2]; omega)) only [go_sem, ↓reduceIte, Nat.reduceEqDiff, Nat.reduceAdd, Nat.reduceMul, Nat.reduceSub, Int.reduceToNat, Nat.reduceBEq, s27], by (rw [hs1]; simp (disch := first | (simp only [go_sem, gb0, eq_self]; done) | omega | (simp only [gl1, gl2]; omega)) only [go_sem, ↓reduceIte, Nat.reduceEqDiff, Nat.reduceAdd, Nat.reduceMul, Nat.reduceSub, Int.reduceToNat, Nat.reduceBEq]), hnx, by simp (disch := first | (simp only [go_sem, gb0, eq_self]; done) | omega | (simp only [gl1, gl2]; omega)) only [go_sem, ↓reduceIte, Nat.reduceEqDiff, Nat.reduceAdd, Nat.reduceMul, Nat.reduceSub, Int.reduceToNat, Nat.reduceBEq, b0], by (rw [hst2]; simp (disch := first | (simp only [go_sem, gb0, eq_self]; done) | omega | (simp only [gl1, gl2]; omega)) only [go_sem, ↓reduceIte, Nat.reduceEqDiff, Nat.reduceAdd, Nat.reduceMul, Nat.reduceSub, Int.reduceToNat, Nat.reduceBEq])⟩
            | false =>
              rw [hLm] at hst2
              simp (disch := first | (simp only [go_sem, gb0, eq_self]; done) | omega | (simp only [gl1, gl2]; omega)) only [go_sem, ↓reduceIte, Nat.reduceEqDiff, Nat.reduceAdd, Nat.reduceMul, Nat.reduceSub, Int.reduceToNat, Nat.reduceBEq, s2, s5, s6, s7, s16, s17, s18, s26, s27, s9, s28, hmn, hm6, hm6', hmr, hmr', hi6, hi6', b2, hli, hw, hLm]
              rw [ForK_normal]
              exact ⟨hmn, by simp (disch := first | (simp only [go_sem, gb0, eq_self]; done) | omega | (simp only [gl1, gl2]; omega)) only [go_sem, ↓reduceIte, Nat.reduceEqDiff, Nat.reduceAdd, Nat.reduceMul, Nat.reduceSub, Int.reduceToNat, Nat.reduceBEq, s28], by simp (disch := first | (simp only [go_sem, gb0, eq_self]; done) | omega | (simp only [gl1, gl2]; omega)) only [go_sem, ↓reduceIte, Nat.reduceEqDiff, Nat.reduceAdd, Nat.reduceMul, Nat.reduceSub, Int.reduceToNat, Nat.reduceBEq, s2], by simp (disch := first | (simp only [go_sem, gb0, eq_self]; done) | omega | (simp only [gl1, gl2]; omega)) only [go_sem, ↓reduceIte, Nat.reduceEqDiff, Nat.reduceAdd, Nat.reduceMul, Nat.reduceSub, Int.reduceToNat, Nat.reduceBEq, s5], by simp (disch := first | (simp only [go_sem, gb0, eq_self]; done) | omega | (simp only [gl1, gl2]; omega)) only [go_sem, ↓reduceIte, Nat.reduceEqDiff, Nat.reduceAdd, Nat.reduceMul, Nat.reduceSub, Int.reduceToNat, Nat.reduceBEq, s6], by simp (disch := first | (simp only [go_sem, gb0, eq_self]; done) | omega | (simp only [gl1, gl2]; omega)) only [go_sem, ↓reduceIte, Nat.reduceEqDiff, Nat.reduceAdd, Nat.reduceMul, Nat.reduceSub, Int.reduceToNat, Nat.reduceBEq, s7], by simp (disch := first | (simp only [go_sem, gb0, eq_self]; done) | omega | (simp only [gl1, gl2]; omega)) only [go_sem, ↓reduceIte, Nat.reduceEqDiff, Nat.reduceAdd, Nat.reduceMul, Nat.reduceSub, Int.reduceToNat, Nat.reduceBEq, s16], by simp (disch := first | (simp only [go_sem, gb0, eq_self]; done) | omega | (simp only [gl1, gl2]; omega)) only [go_sem, ↓reduceIte, Nat.reduceEqDiff, Nat.reduceAdd, Nat.reduceMul, Nat.reduceSub, Int.reduceToNat, Nat.reduceBEq, s17], by simp (disch := first | (simp only [go_sem, gb0, eq_self]; done) | omega | (simp only [gl1, gl2]; omega)) only [go_sem, ↓reduceIte, Nat.reduceEqDiff, Nat.reduceAdd, Nat.reduceMul, Nat.reduceSub, Int.reduceToNat, Nat.reduceBEq, s18], by simp (disch := first | (simp only [go_sem, gb0, eq_self]; done) | omega | (simp only [gl1, gl2]; omega)) only [go_sem, ↓reduceIte, Nat.reduceEqDiff, Nat.reduceAdd, Nat.reduceMul, Nat.reduceSub, Int.reduceToNat, Nat.reduceBEq, s26], by simp (disch := first | (simp only [go_sem, gb0, eq_self]; done) | omega | (simp only [gl1, gl2]; omega)) only [go_sem, ↓reduceIte, Nat.reduceEqDiff, Nat.reduceAdd, Nat.reduceMul, Nat.reduceSub, Int.reduceToNat, Nat.reduceBEq, s27], by (rw [hs1]; simp (disch := first | (simp only [go_sem, gb0, eq_self]; done) | omega | (simp only [gl1, gl2]; omega)) only [go_sem, ↓reduceIte, Nat.reduceEqDiff, Nat.reduceAdd, Nat.reduceMul, Nat.reduceSub, Int.reduceToNat, Nat.reduceBEq]), hnx, by simp (disch := first | (simp only [go_sem, gb0, eq_self]; done) | omega | (simp only [gl1, gl2]; omega)) only [go_sem, ↓reduceIte, Nat.reduceEqDiff, Nat.reduceAdd, Nat.reduceMul, Nat.reduceSub, Int.reduceToNat, Nat.reduceBEq, b0], by (rw [hst2]; simp (disch := first | (simp only [go_sem, gb0, eq_self]; done) | omega | (simp only [gl1, gl2]; omega)) only [go_sem, ↓reduceIte, Nat.reduceEqDiff, Nat.reduceAdd, Nat.reduceMul, Nat.reduceSub, Int.reduceToNat, Nat.reduceBEq])⟩
          · have hst2 : leads (wF nx) L' i (m + 1) = false := by rw [hst]; show (false || (decide (0 < nth (nth nx i) m) && L' m)) = false; simp [hw]
            simp (disch := first | (simp only [go_sem, gb0, eq_self]; done) | omega | (simp only [gl1, gl2]; omega)) only [go_sem, ↓reduceIte, Nat.reduceEqDiff, Nat.reduceAdd, Nat.reduceMul, Nat.reduceSub, Int.reduceToNat, Nat.reduceBEq, s2, s5, s6, s7, s16, s17, s18, s26, s27, s9, s28, hmn, hm6, hm6', hmr, hmr', hi6, hi6', b2, hli, hw]
            rw [ForK_normal]
            exact ⟨hmn, by simp (disch := first | (simp only [go_sem, gb0, eq_self]; done) | omega | (simp only [gl1, gl2]; omega)) only [go_sem, ↓reduceIte, Nat.reduceEqDiff, Nat.reduceAdd, Nat.reduceMul, Nat.reduceSub, Int.reduceToNat, Nat.reduceBEq, s28], by simp (disch := first | (simp only [go_sem, gb0, eq_self]; done) | omega | (simp only [gl1, gl2]; omega)) only [go_sem, ↓reduceIte, Nat.reduceEqDiff, Nat.reduceAdd, Nat.reduceMul, Nat.reduceSub, Int.reduceToNat, Nat.reduceBEq, s2], by simp (disch := first | (simp only [go_sem, gb0, eq_self]; done) | omega | (simp only [gl1, gl2]; omega)) only [go_sem, ↓reduceIte, Nat.reduceEqDiff, Nat.reduceAdd, Nat.reduceMul, Nat.reduceSub, Int.reduceToNat, Nat.reduceBEq, s5], by simp (disch := first | (simp only [go_sem, gb0, eq_self]; done) | omega | (simp only [gl1, gl2]; omega)) only [go_sem, ↓reduceIte, Nat.reduceEqDiff, Nat.reduceAdd, Nat.reduceMul, Nat.reduceSub, Int.reduceToNat, Nat.reduceBEq, s6], by simp (disch := first | (simp only [go_sem, gb0, eq_self]; done) | omega | (simp only [gl1, gl2]; omega)) only [go_sem, ↓reduceIte, Nat.reduceEqDiff, Nat.reduceAdd, Nat.reduceMul, Nat.reduceSub, Int.reduceToNat, Nat.reduceBEq, s7], by simp (disch := first | (simp only [go_sem, gb0, eq_self]; done) | omega | (simp only [gl1, gl2]; omega)) only [go_sem, ↓reduceIte, Nat.reduceEqDiff, Nat.reduceAdd, Nat.reduceMul, Nat.reduceSub, Int.reduceToNat, Nat.reduceBEq, s16], by simp (disch := first | (simp only [go_sem, gb0, eq_self]; done) | omega | (simp only [gl1, gl2]; omega)) only [go_sem, ↓reduceIte, Nat.reduceEqDiff, Nat.reduceAdd, Nat.reduceMul, Nat.reduceSub, Int.reduceToNat, Nat.reduceBEq, s17], by simp (disch := first | (simp only [go_sem, gb0, eq_self]; done) | omega | (simp only [gl1, gl2]; omega)) only [go_sem, ↓reduceIte, Nat.reduceEqDiff, Nat.reduceAdd, Nat.reduceMul, Nat.reduceSub, Int.reduceToNat, Nat.reduceBEq, s18], by simp (disch := first | (simp only [go_sem, gb0, eq_self]; done) | omega | (simp only [gl1, gl2]; omega)) only [go_sem, ↓reduceIte, Nat.reduceEqDiff, Nat.reduceAdd, Nat.reduceMul, Nat.reduceSub, Int.reduceToNat, Nat.reduceBEq, s26], by simp (disch := first | (simp only [go_sem, gb0, eq_self]; done) | omega | (simp only [gl1, gl2]; omega)) only [go_sem, ↓reduceIte, Nat.reduceEqDiff, Nat.reduceAdd, Nat.reduceMul, Nat.reduceSub, Int.reduceToNat, Nat.reduceBEq, s27], by (rw [hs1]; simp (disch := first | (simp only [go_sem, gb0, eq_self]; done) | omega | (simp only [gl1, gl2]; omega)) only [go_sem, ↓reduceIte, Nat.reduceEqDiff, Nat.reduceAdd, Nat.reduceMul, Nat.reduceSub, Int.reduceToNat, Nat.reduceBEq]), hnx, by simp (disch := first | (simp only [go_sem, gb0, eq_self]; done) | omega | (simp only [gl1, gl2]; omega)) only [go_sem, ↓reduceIte, Nat.reduceEqDiff, Nat.reduceAdd, Nat.reduceMul, Nat.reduceSub, Int.reduceToNat, Nat.reduceBEq, b0], by (rw [hst2]; simp (disch := first | (simp only [go_sem, gb0, eq_self]; done) | omega | (simp only [gl1, gl2]; omega)) only [go_sem, ↓reduceIte, Nat.reduceEqDiff, Nat.reduceAdd, Nat.reduceMul, Nat.reduceSub, Int.reduceToNat, Nat.reduceBEq])⟩
      · rintro st h ⟨s2, s5, s6, s7, s16, s17, s18, s9, hnx, b0, b2⟩
        have hle : cntF L' ≤ cntF L := by
          cases g with
          | true => exact Nat.le_of_lt (hg1 rfl)
          | false => rw [(hg2 rfl).1]; exact Nat.le_refl _
        have hyes : (leads (wF nx) L' i n || decide (sumN (wF nx i) n < 4)) = true → Left n (wF nx) (ruleB x) (setB L' i true) ∧ cntF (setB L' i true) < cntF L := fun hv => by
          refine ⟨?_, ?_⟩
          · have CC := C.chn
            rw [← hn] at CC
            exact hL'.grow CC hlt hv
          · have := cntF_set hi6 hli; omega
        cases hb : leads (wF nx) L' i n with
        | true =>
          rw [hb] at b2 hyes
          obtain ⟨y1, y2⟩ := hyes rfl
          have hat := setB_at L' i true
          have hse := setB_twice L' i true true
          cases g with
          | true =>
            simp (disch := first | (simp only [go_sem, gb0, eq_self]; done) | omega | (simp only [gl1, gl2]; omega)) only [go_sem, ↓reduceIte, Nat.reduceEqDiff, Nat.reduceAdd, Nat.reduceMul, Nat.reduceSub, Int.reduceToNat, Nat.reduceBEq, s2, s5, s6, s7, s16, s17, s18, s9, hi6, hi6', b2, hat, hse]
            rw [ForK_normal]
            exact ⟨hlt, by simp (disch := first | (simp only [go_sem, gb0, eq_self]; done) | omega | (simp only [gl1, gl2]; omega)) only [go_sem, ↓reduceIte, Nat.reduceEqDiff, Nat.reduceAdd, Nat.reduceMul, Nat.reduceSub, Int.reduceToNat, Nat.reduceBEq, s18], by simp (disch := first | (simp only [go_sem, gb0, eq_self]; done) | omega | (simp only [gl1, gl2]; omega)) only [go_sem, ↓reduceIte, Nat.reduceEqDiff, Nat.reduceAdd, Nat.reduceMul, Nat.reduceSub, Int.reduceToNat, Nat.reduceBEq, s2], by simp (disch := first | (simp only [go_sem, gb0, eq_self]; done) | omega | (simp only [gl1, gl2]; omega)) only [go_sem, ↓reduceIte, Nat.reduceEqDiff, Nat.reduceAdd, Nat.reduceMul, Nat.reduceSub, Int.reduceToNat, Nat.reduceBEq, s5], by simp (disch := first | (simp only [go_sem, gb0, eq_self]; done) | omega | (simp only [gl1, gl2]; omega)) only [go_sem, ↓reduceIte, Nat.reduceEqDiff, Nat.reduceAdd, Nat.reduceMul, Nat.reduceSub, Int.reduceToNat, Nat.reduceBEq, s16], by simp (disch := first | (simp only [go_sem, gb0, eq_self]; done) | omega | (simp only [gl1, gl2]; omega)) only [go_sem, ↓reduceIte, Nat.reduceEqDiff, Nat.reduceAdd, Nat.reduceMul, Nat.reduceSub, Int.reduceToNat, Nat.reduceBEq, s17], hnx, by simp (disch := first | (simp only [go_sem, gb0, eq_self]; done) | omega | (simp only [gl1, gl2]; omega)) only [go_sem, ↓reduceIte, Nat.reduceEqDiff, Nat.reduceAdd, Nat.reduceMul, Nat.reduceSub, Int.reduceToNat, Nat.reduceBEq, b0], true, _, by simp (disch := first | (simp only [go_sem, gb0, eq_self]; done) | omega | (simp only [gl1, gl2]; omega)) only [go_sem, ↓reduceIte, Nat.reduceEqDiff, Nat.reduceAdd, Nat.reduceMul, Nat.reduceSub, Int.reduceToNat, Nat.reduceBEq, s6], by simp (disch := first | (simp only [go_sem, gb0, eq_self]; done) | omega | (simp only [gl1, gl2]; omega)) only [go_sem, ↓reduceIte, Nat.reduceEqDiff, Nat.reduceAdd, Nat.reduceMul, Nat.reduceSub, Int.reduceToNat, Nat.reduceBEq], y1, fun _ => y2, fun h => by cases h⟩
          | false =>
            simp (disch := first | (simp only [go_sem, gb0, eq_self]; done) | omega | (simp only [gl1, gl2]; omega)) only [go_sem, ↓reduceIte, Nat.reduceEqDiff, Nat.reduceAdd, Nat.reduceMul, Nat.reduceSub, Int.reduceToNat, Nat.reduceBEq, s2, s5, s6, s7, s16, s17, s18, s9, hi6, hi6', b2, hat, hse]
            rw [ForK_normal]
            exact ⟨hlt, by simp (disch := first | (simp only [go_sem, gb0, eq_self]; done) | omega | (simp only [gl1, gl2]; omega)) only [go_sem, ↓reduceIte, Nat.reduceEqDiff, Nat.reduceAdd, Nat.reduceMul, Nat.reduceSub, Int.reduceToNat, Nat.reduceBEq, s18], by simp (disch := first | (simp only [go_sem, gb0, eq_self]; done) | omega | (simp only [gl1, gl2]; omega)) only [go_sem, ↓reduceIte, Nat.reduceEqDiff, Nat.reduceAdd, Nat.reduceMul, Nat.reduceSub, Int.reduceToNat, Nat.reduceBEq, s2], by simp (disch := first | (simp only [go_sem, gb0, eq_self]; done) | omega | (simp only [gl1, gl2]; omega)) only [go_sem, ↓reduceIte, Nat.reduceEqDiff, Nat.reduceAdd, Nat.reduceMul, Nat.reduceSub, Int.reduceToNat, Nat.reduceBEq, s5], by simp (disch := first | (simp only [go_sem, gb0, eq_self]; done) | omega | (simp only [gl1, gl2]; omega)) only [go_sem, ↓reduceIte, Nat.reduceEqDiff, Nat.reduceAdd, Nat.reduceMul, Nat.reduceSub, Int.reduceToNat, Nat.reduceBEq, s16], by simp (disch := first | (simp only [go_sem, gb0, eq_self]; done) | omega | (simp only [gl1, gl2]; omega)) only [go_sem, ↓reduceIte, Nat.reduceEqDiff, Nat.reduceAdd, Nat.reduceMul, Nat.reduceSub, Int.reduceToNat, Nat.reduceBEq, s17], hnx, by simp (disch := first | (simp only [go_sem, gb0, eq_self]; done) | omega | (simp only [gl1, gl2]; omega)) only [go_sem, ↓reduceIte, Nat.reduceEqDiff, Nat.reduceAdd, Nat.reduceMul, Nat.reduceSub, Int.reduceToNat, Nat.reduceBEq, b0], true, _, by simp (disch := first | (simp only [go_sem, gb0, eq_self]; done) | omega | (simp only [gl1, gl2]; omega)) only [go_sem, ↓reduceIte, Nat.reduceEqDiff, Nat.reduceAdd, Nat.reduceMul, Nat.reduceSub, Int.reduceToNat, Nat.reduceBEq, s6], by simp (disch := first | (simp only [go_sem, gb0, eq_self]; done) | omega | (simp only [gl1, gl2]; omega)) only [go_sem, ↓reduceIte, Nat.reduceEqDiff, Nat.reduceAdd, Nat.reduceMul, Nat.reduceSub, Int.reduceToNat, Nat.reduceBEq], y1, fun _ => y2, fun h => by cases h⟩
        | false =>
          rw [hb, setB_same hli] at b2
          rw [hb] at hyes
          by_cases h4 : sumN (wF nx i) n < 4
          · obtain ⟨y1, y2⟩ := hyes (by simp [h4])
            have hat := setB_at L' i true
            cases g with
            | true =>
              simp (disch := first | (simp only [go_sem, gb0, eq_self]; done) | omega | (simp only [gl1, gl2]; omega)) only [go_sem, ↓reduceIte, Nat.reduceEqDiff, Nat.reduceAdd, Nat.reduceMul, Nat.reduceSub, Int.reduceToNat, Nat.reduceBEq, s2, s5, s6, s7, s16, s17, s18, s9, hi6, hi6', b2, hli, h4, hat]
              rw [ForK_normal]
              exact ⟨hlt, by simp (disch := first | (simp only [go_sem, gb0, eq_self]; done) | omega | (simp only [gl1, gl2]; omega)) only [go_sem, ↓reduceIte, Nat.reduceEqDiff, Nat.reduceAdd, Nat.reduceMul, Nat.reduceSub, Int.reduceToNat, Nat.reduceBEq, s18], by simp (disch := first | (simp only [go_sem, gb0, eq_self]; done) | omega | (simp only [gl1, gl2]; omega)) only [go_sem, ↓reduceIte, Nat.reduceEqDiff, Nat.reduceAdd, Nat.reduceMul, Nat.reduceSub, Int.reduceToNat, Nat.reduceBEq, s2], by simp (disch := first | (simp only [go_sem, gb0, eq_self]; done) | omega | (simp only [gl1, gl2]; omega)) only [go_sem, ↓reduceIte, Nat.reduceEqDiff, Nat.reduceAdd, Nat.reduceMul, Nat.reduceSub, Int.reduceToNat, Nat.reduceBEq, s5], by simp (disch := first | (simp only [go_sem, gb0, eq_self]; done) | omega | (simp only [gl1, gl2]; omega)) only [go_sem, ↓reduceIte, Nat.reduceEqDiff, Nat.reduceAdd, Nat.reduceMul, Nat.reduceSub, Int.reduceToNat, Nat.reduceBEq, s16], by simp (disch := first | (simp only [go_sem, gb0, eq_self]; done) | omega | (simp only [gl1, gl2]; omega)) only [go_sem, ↓reduceIte, Nat.reduceEqDiff, Nat.reduceAdd, Nat.reduceMul, Nat.reduceSub, Int.reduceToNat, Nat.reduceBEq, s17], hnx, by simp (disch := first | (simp only [go_sem, gb0, eq_self]; done) | omega | (simp only [gl1, gl2]; omega)) only [go_sem, ↓reduceIte, Nat.reduceEqDiff, Nat.reduceAdd, Nat.reduceMul, Nat.reduceSub, Int.reduceToNat, Nat.reduceBEq, b0], true, _, by simp (disch := first | (simp only [go_sem, gb0, eq_self]; done) | omega | (simp only [gl1, gl2]; omega)) only [go_sem, ↓reduceIte, Nat.reduceEqDiff, Nat.reduceAdd, Nat.reduceMul, Nat.reduceSub, Int.reduceToNat, Nat.reduceBEq, s6], by simp (disch := first | (simp only [go_sem, gb0, eq_self]; done) | omega | (simp only [gl1, gl2]; omega)) only [go_sem, ↓reduceIte, Nat.reduceEqDiff, Nat.reduceAdd, Nat.reduceMul, Nat.reduceSub, Int.reduceToNat, Nat.reduceBEq], y1, fun _ => y2, fun h => by cases h⟩
            | false =>
              simp (disch := first | (simp only [go_sem, gb0, eq_self]; done) | omega | (simp only [gl1, gl2]; omega)) only [go_sem, ↓reduceIte, Nat.reduceEqDiff, Nat.reduceAdd, Nat.reduceMul, Nat.reduceSub, Int.reduceToNat, Nat.reduceBEq, s2, s5, s6, s7, s16, s17, s18, s9, hi6, hi6', b2, hli, h4, hat]
              rw [ForK_normal]
              exact ⟨hlt, by simp (disch := first | (simp only [go_sem, gb0, eq_self]; done) | omega | (simp only [gl1, gl2]; omega)) only [go_sem, ↓reduceIte, Nat.reduceEqDiff, Nat.reduceAdd, Nat.reduceMul, Nat.reduceSub, Int.reduceToNat, Nat.reduceBEq, s18], by simp (disch := first | (simp only [go_sem, gb0, eq_self]; done) | omega | (simp only [gl1, gl2]; omega)) only [go_sem, ↓reduceIte, Nat.reduceEqDiff, Nat.reduceAdd, Nat.reduceMul, Nat.reduceSub, Int.reduceToNat, Nat.reduceBEq, s2], by simp (disch := first | (simp only [go_sem, gb0, eq_self]; done) | omega | (simp only [gl1, gl2]; omega)) only [go_sem, ↓reduceIte, Nat.reduceEqDiff, Nat.reduceAdd, Nat.reduceMul, Nat.reduceSub, Int.reduceToNat, Nat.reduceBEq, s5], by simp (disch := first | (simp only [go_sem, gb0, eq_self]; done) | omega | (simp only [gl1, gl2]; omega)) only [go_sem, ↓reduceIte, Nat.reduceEqDiff, Nat.reduceAdd, Nat.reduceMul, Nat.reduceSub, Int.reduceToNat, Nat.reduceBEq, s16], by simp (disch := first | (simp only [go_sem, gb0, eq_self]; done) | omega | (simp only [gl1, gl2]; omega)) only [go_sem, ↓reduceIte, Nat.reduceEqDiff, Nat.reduceAdd, Nat.reduceMul, Nat.reduceSub, Int.reduceToNat, Nat.reduceBEq, s17], hnx, by simp (disch := first | (simp only [go_sem, gb0, eq_self]; done) | omega | (simp only [gl1, gl2]; omega)) only [go_sem, ↓reduceIte, Nat.reduceEqDiff, Nat.reduceAdd, Nat.reduceMul, Nat.reduceSub, Int.reduceToNat, Nat.reduceBEq, b0], true, _, by simp (disch := first | (simp only [go_sem, gb0, eq_self]; done) | omega | (simp only [gl1, gl2]; omega)) only [go_sem, ↓reduceIte, Nat.reduceEqDiff, Nat.reduceAdd, Nat.reduceMul, Nat.reduceSub, Int.reduceToNat, Nat.reduceBEq, s6], by simp (disch := first | (simp only [go_sem, gb0, eq_self]; done) | omega | (simp only [gl1, gl2]; omega)) only [go_sem, ↓reduceIte, Nat.reduceEqDiff, Nat.reduceAdd, Nat.reduceMul, Nat.reduceSub, Int.reduceToNat, Nat.reduceBEq], y1, fun _ => y2, fun h => by cases h⟩
          · have hat := setB_at L' i false
            have hsf := setB_same hli
            have hsum : sumN (wF nx i) n = 4 := by have := C.chn.w4 i hi1; rw [← hn] at this; show sumN (fun j => nth (nth nx i) j) n = 4; have h5 : ¬ sumN (fun j => nth (nth nx i) j) n < 4 := h4; omega
            have hext : g = false → L' = L ∧ stab n (wF nx) L (i + 1) := fun h => by
              obtain ⟨e, s⟩ := hg2 h
              refine ⟨e, fun k hk hlk => ?_⟩
              by_cases hki : k = i
              · subst hki; rw [← e]; exact ⟨hsum, leads_no hb⟩
              · exact s k (by omega) hlk
            cases g with
            | true =>
              simp (disch := first | (simp only [go_sem, gb0, eq_self]; done) | omega | (simp only [gl1, gl2]; omega)) only [go_sem, ↓reduceIte, Nat.reduceEqDiff, Nat.reduceAdd, Nat.reduceMul, Nat.reduceSub, Int.reduceToNat, Nat.reduceBEq, s2, s5, s6, s7, s16, s17, s18, s9, hi6, hi6', b2, hli, h4, hsf]
              rw [ForK_normal]
              exact ⟨hlt, by simp (disch := first | (simp only [go_sem, gb0, eq_self]; done) | omega | (simp only [gl1, gl2]; omega)) only [go_sem, ↓reduceIte, Nat.reduceEqDiff, Nat.reduceAdd, Nat.reduceMul, Nat.reduceSub, Int.reduceToNat, Nat.reduceBEq, s18], by simp (disch := first | (simp only [go_sem, gb0, eq_self]; done) | omega | (simp only [gl1, gl2]; omega)) only [go_sem, ↓reduceIte, Nat.reduceEqDiff, Nat.reduceAdd, Nat.reduceMul, Nat.reduceSub, Int.reduceToNat, Nat.reduceBEq, s2], by simp (disch := first | (simp only [go_sem, gb0, eq_self]; done) | omega | (simp only [gl1, gl2]; omega)) only [go_sem, ↓reduceIte, Nat.reduceEqDiff, Nat.reduceAdd, Nat.reduceMul, Nat.reduceSub, Int.reduceToNat, Nat.reduceBEq, s5], by simp (disch := first | (simp only [go_sem, gb0, eq_self]; done) | omega | (simp only [gl1, gl2]; omega)) only [go_sem, ↓reduceIte, Nat.reduceEqDiff, Nat.reduceAdd, Nat.reduceMul, Nat.reduceSub, Int.reduceToNat, Nat.reduceBEq, s16], by simp (disch := first | (simp only [go_sem, gb0, eq_self]; done) | omega | (simp only [gl1, gl2]; omega)) only [go_sem, ↓reduceIte, Nat.reduceEqDiff, Nat.reduceAdd, Nat.reduceMul, Nat.reduceSub, Int.reduceToNat, Nat.reduceBEq, s17], hnx, by simp (disch := first | (simp only [go_sem, gb0, eq_self]; done) | omega | (simp only [gl1, gl2]; omega)) only [go_sem, ↓reduceIte, Nat.reduceEqDiff, Nat.reduceAdd, Nat.reduceMul, Nat.reduceSub, Int.reduceToNat, Nat.reduceBEq, b0], true, L', by simp (disch := first | (simp only [go_sem, gb0, eq_self]; done) | omega | (simp only [gl1, gl2]; omega)) only [go_sem, ↓reduceIte, Nat.reduceEqDiff, Nat.reduceAdd, Nat.reduceMul, Nat.reduceSub, Int.reduceToNat, Nat.reduceBEq, s6], by simp (disch := first | (simp only [go_sem, gb0, eq_self]; done) | omega | (simp only [gl1, gl2]; omega)) only [go_sem, ↓reduceIte, Nat.reduceEqDiff, Nat.reduceAdd, Nat.reduceMul, Nat.reduceSub, Int.reduceToNat, Nat.reduceBEq], hL', hg1, hext⟩
            | false =>
              simp (disch := first | (simp only [go_sem, gb0, eq_self]; done) | omega | (simp only [gl1, gl2]; omega)) only [go_sem, ↓reduceIte, Nat.reduceEqDiff, Nat.reduceAdd, Nat.reduceMul, Nat.reduceSub, Int.reduceToNat, Nat.reduceBEq, s2, s5, s6, s7, s16, s17, s18, s9, hi6, hi6', b2, hli, h4, hsf]
              rw [ForK_normal]
              exact ⟨hlt, by simp (disch := first | (simp only [go_sem, gb0, eq_self]; done) | omega | (simp only [gl1, gl2]; omega)) only [go_sem, ↓reduceIte, Nat.reduceEqDiff, Nat.reduceAdd, Nat.reduceMul, Nat.reduceSub, Int.reduceToNat, Nat.reduceBEq, s18], by simp (disch := first | (simp only [go_sem, gb0, eq_self]; done) | omega | (simp only [gl1, gl2]; omega)) only [go_sem, ↓reduceIte, Nat.reduceEqDiff, Nat.reduceAdd, Nat.reduceMul, Nat.reduceSub, Int.reduceToNat, Nat.reduceBEq, s2], by simp (disch := first | (simp only [go_sem, gb0, eq_self]; done) | omega | (simp only [gl1, gl2]; omega)) only [go_sem, ↓reduceIte, Nat.reduceEqDiff, Nat.reduceAdd, Nat.reduceMul, Nat.reduceSub, Int.reduceToNat, Nat.reduceBEq, s5], by simp (disch := first | (simp only [go_sem, gb0, eq_self]; done) | omega | (simp only [gl1, gl2]; omega)) only [go_sem, ↓reduceIte, Nat.reduceEqDiff, Nat.reduceAdd, Nat.reduceMul, Nat.reduceSub, Int.reduceToNat, Nat.reduceBEq, s16], by simp (disch := first | (simp only [go_sem, gb0, eq_self]; done) | omega | (simp only [gl1, gl2]; omega)) only [go_sem, ↓reduceIte, Nat.reduceEqDiff, Nat.reduceAdd, Nat.reduceMul, Nat.reduceSub, Int.reduceToNat, Nat.reduceBEq, s17], hnx, by simp (disch := first | (simp only [go_sem, gb0, eq_self]; done) | omega | (simp only [gl1, gl2]; omega)) only [go_sem, ↓reduceIte, Nat.reduceEqDiff, Nat.reduceAdd, Nat.reduceMul, Nat.reduceSub, Int.reduceToNat, Nat.reduceBEq, b0], false, L', by simp (disch := first | (simp only [go_sem, gb0, eq_self]; done) | omega | (simp only [gl1, gl2]; omega)) only [go_sem, ↓reduceIte, Nat.reduceEqDiff, Nat.reduceAdd, Nat.reduceMul, Nat.reduceSub, Int.reduceToNat, Nat.reduceBEq, s6], by simp (disch := first | (simp only [go_sem, gb0, eq_self]; done) | omega | (simp only [gl1, gl2]; omega)) only [go_sem, ↓reduceIte, Nat.reduceEqDiff, Nat.reduceAdd, Nat.reduceMul, Nat.reduceSub, Int.reduceToNat, Nat.reduceBEq], hL', hg1, hext⟩
    · rintro st h ⟨s2, s5, hnx, b0, g, L', s6, b2, hL', hg1, hg2⟩
      rw [BlockK_normal, LoopK_normal]
      refine ⟨if g then cntF L' + 1 else 0, ?_, g, L', rfl, s2, s5, s6, hnx, b0, b2, hL', hg2⟩
      cases g with
      | true => have := hg1 rfl; simp only [if_true]; omega
      | false => simp
  · rintro st h ⟨s2, s5, hnx, b0, L, b2, hL, hS⟩
    have hsd := hL.sound hS
    have hres : ∀ b, (b = true ↔ ∀ i, i < n → L i = true) → sndB nx.length (wF nx) x = b := fun b hb => by
      have : sndB nx.length (wF nx) x = true ↔ b = true := by rw [sndB_iff, ← hn, hsd, hb]
      cases b with
      | true => exact this.2 rfl
      | false => exact Bool.eq_false_iff.2 fun h => by cases this.1 h
    simp (disch := first | (simp only [go_sem, gb0, eq_self]; done) | omega | (simp only [gl1, gl2]; omega)) only [go_sem, ↓reduceIte, Nat.reduceEqDiff, Nat.reduceAdd, Nat.reduceMul, Nat.reduceSub, Int.reduceToNat, Nat.reduceBEq, s2, s5, b0]
    refine WP_for 70 n (fun i st h => st 5 = .ptr 2 0 ∧ st 69 = I n ∧ h.bl 2 = some (.cells false false (bolA L)) ∧ ∀ k, k < i → L k = true) (by simp (disch := first | (simp only [go_sem, gb0, eq_self]; done) | omega | (simp only [gl1, gl2]; omega)) only [go_sem, ↓reduceIte, Nat.reduceEqDiff, Nat.reduceAdd, Nat.reduceMul, Nat.reduceSub, Int.reduceToNat, Nat.reduceBEq]) ⟨by simp (disch := first | (simp only [go_sem, gb0, eq_self]; done) | omega | (simp only [gl1, gl2]; omega)) only [go_sem, ↓reduceIte, Nat.reduceEqDiff, Nat.reduceAdd, Nat.reduceMul, Nat.reduceSub, Int.reduceToNat, Nat.reduceBEq, s5], by simp (disch := first | (simp only [go_sem, gb0, eq_self]; done) | omega | (simp only [gl1, gl2]; omega)) only [go_sem, ↓reduceIte, Nat.reduceEqDiff, Nat.reduceAdd, Nat.reduceMul, Nat.reduceSub, Int.reduceToNat, Nat.reduceBEq, hn], b2, fun k hk => by omega⟩ ?_
    rintro i st h hi s70 ⟨s5, s69, b2, hall⟩
    by_cases hlt : i < n
    case neg =>
      have hr := hres true ⟨fun _ k hk => hall k (by omega), fun _ => rfl⟩
      simp (disch := first | (simp only [go_sem, gb0, eq_self]; done) | omega | (simp only [gl1, gl2]; omega)) only [go_sem, ↓reduceIte, Nat.reduceEqDiff, Nat.reduceAdd, Nat.reduceMul, Nat.reduceSub, Int.reduceToNat, Nat.reduceBEq, s5, s69, s70, hlt, hr]
    obtain ⟨hi1, hi6, hi6', hi2⟩ := hnn i hlt
    cases hli : L i with
    | true =>
      simp (disch := first | (simp only [go_sem, gb0, eq_self]; done) | omega | (simp only [gl1, gl2]; omega)) only [go_sem, ↓reduceIte, Nat.reduceEqDiff, Nat.reduceAdd, Nat.reduceMul, Nat.reduceSub, Int.reduceToNat, Nat.reduceBEq, s5, s69, s70, hlt, hi6, hi6', b2, hli]
      rw [ForK_normal]
      refine ⟨hlt, by simp (disch := first | (simp only [go_sem, gb0, eq_self]; done) | omega | (simp only [gl1, gl2]; omega)) only [go_sem, ↓reduceIte, Nat.reduceEqDiff, Nat.reduceAdd, Nat.reduceMul, Nat.reduceSub, Int.reduceToNat, Nat.reduceBEq, s70], by simp (disch := first | (simp only [go_sem, gb0, eq_self]; done) | omega | (simp only [gl1, gl2]; omega)) only [go_sem, ↓reduceIte, Nat.reduceEqDiff, Nat.reduceAdd, Nat.reduceMul, Nat.reduceSub, Int.reduceToNat, Nat.reduceBEq, s5], by simp (disch := first | (simp only [go_sem, gb0, eq_self]; done) | omega | (simp only [gl1, gl2]; omega)) only [go_sem, ↓reduceIte, Nat.reduceEqDiff, Nat.reduceAdd, Nat.reduceMul, Nat.reduceSub, Int.reduceToNat, Nat.reduceBEq, s69], b2, fun k hk => ?_⟩
      by_cases hki : k = i
      · subst hki; exact hli
      · exact hall k (by omega)
    | false =>
      have hr := hres false ⟨fun h => (by cases h), fun h => (by rw [h i hlt] at hli; cases hli)⟩
      simp (disch := first | (simp only [go_sem, gb0, eq_self]; done) | omega | (simp only [gl1, gl2]; omega)) only [go_sem, ↓reduceIte, Nat.reduceEqDiff, Nat.reduceAdd, Nat.reduceMul, Nat.reduceSub, Int.reduceToNat, Nat.reduceBEq, s5, s69, s70, hlt, hi6, hi6', b2, hli, hr]
end Go.Proofs.Ytgamcclfdkpcgaa

set_option linter.unusedVariables false
set_option linter.unusedSimpArgs false
set_option maxRecDepth 10000
namespace Go.Proofs.Ytgamcclfdkpcgaa
open Go Go.Am

variable {h h' : Hp} {K : AV → Hp → Prop}

def rowB (r : List Int) : Bool := (List.range r.length).all (fun j => inB (nth r j) 0 4) && decide (sumN (fun j => nth r j) r.length ≤ 4)
def stB (nx : List (List Int)) (pay cost : List Int) (i : Nat) : Bool := decide ((nth nx i).length = nx.length) && (inB (nth pay i) 0 1000 && (inB (nth cost i) 0 100 && rowB (nth nx i)))
def chB (nx : List (List Int)) (pay cost : List Int) : Bool := inB nx.length 1 6 && (decide (pay.length = nx.length) && (decide (cost.length = nx.length) && (List.range nx.length).all (stB nx pay cost)))
theorem allR {n : Nat} {p : Nat → Bool} (h : ∀ i, i < n → p i = true) : (List.range n).all p = true := List.all_eq_true.2 fun x hx => h x (List.mem_range.1 hx)
theorem notR {n i : Nat} {p : Nat → Bool} (hi : i < n) (h : p i = false) : (List.range n).all p = false := List.all_eq_false.2 ⟨i, List.mem_range.2 hi, by rw [h]; decide⟩
theorem ofR {n i : Nat} {p : Nat → Bool} (h : (List.range n).all p = true) (hi : i < n) : p i = true := List.all_eq_true.1 h i (List.mem_range.2 hi)
theorem okC.of {nx : List (List Int)} {pay cost : List Int} (h : chB nx pay cost = true) : okC nx pay cost := by
  simp only [chB, Bool.and_eq_true, decide_eq_true_eq, inB] at h
  obtain ⟨⟨h1, h6⟩, hp, hc, hall⟩ := h
  have hs := fun i hi => ofR (i := i) hall hi
  simp only [stB, rowB, Bool.and_eq_true, decide_eq_true_eq, inB] at hs
  have hrow : ∀ i, i < nx.length → (nth nx i).length = nx.length := fun i hi => (hs i hi).1
  refine ⟨by omega, by omega, hrow, hp, hc, fun i j hi hj => ?_, fun i hi => ?_, fun i hi => (hs i hi).2.1, fun i hi => (hs i hi).2.2.1⟩
  · have := ofR (i := j) (hs i hi).2.2.2.1 (by rw [hrow i hi]; exact hj)
    simp only [Bool.and_eq_true, decide_eq_true_eq] at this
    exact this.1
  · have := (hs i hi).2.2.2.2
    rw [hrow i hi] at this; exact this
theorem st_no {nx : List (List Int)} {pay cost : List Int} {i : Nat} (hi : i < nx.length) (h : stB nx pay cost i = false) : chB nx pay cost = false := by
  rw [chB, notR hi h, Bool.and_false, Bool.and_false, Bool.and_false]
theorem sum4 {r : List Int} {j : Nat} (h : ∀ k, k < j → inB (nth r k) 0 4 = true) : 0 ≤ sumN (fun k => nth r k) j ∧ sumN (fun k => nth r k) j ≤ 4 * j := by
  have := sumN_bounds (f := fun k => nth r k) (lo := 0) (hi := 4) (n := j) fun k hk => by
    have := h k hk
    simp only [inB, Bool.and_eq_true, decide_eq_true_eq] at this
    omega
  omega

theorem f48_con (nx : List (List Int)) (pay cost : List Int) (hk : okN nx pay cost) : Con Try.prog cfg 48 [chA nx pay cost] (.bool (chB nx pay cost)) := by
  have ml : maxLen = 9223372036854775807 := by decide
  have hkn := hk.n
  have hkp := hk.p
  have hkc := hk.c
  have hal : ∀ g : Hp, allocB g (some (chA nx pay cost)) = some (.ptr g.nx 0, g.alloc (.cells false false [LLI nx, LI pay, LI cost])) := fun g => allocB_agg _ rfl
  obtain ⟨b, hb⟩ : ∃ b, b = chB nx pay cost := ⟨_, rfl⟩
  rw [← hb]
  cases c1 : inB nx.length 1 6 with
  | false =>
    have hr : b = false := by rw [hb, chB, c1]; rfl
    refine Con_intro Try.func48 rfl ok48 (Nat.le_of_ble_eq_true rfl) rfl ?_
    simp only [Try.f48, Option.getD_some, initSt1]
    simp (disch := first | (simp only [go_sem, gb0, eq_self]; done) | omega | (simp only [gl1, gl2]; omega)) only [go_sem, ↓reduceIte, Nat.reduceEqDiff, Nat.reduceAdd, Nat.reduceMul, Nat.reduceSub, Int.reduceToNat, Nat.reduceBEq, hal, c1, hr]
  | true =>
  by_cases c2 : pay.length = nx.length
  case neg =>
    have hr : b = false := by rw [hb, chB, decide_eq_false c2]; simp
    have c2' : ¬ (pay.length : Int) = nx.length := by omega
    refine Con_intro Try.func48 rfl ok48 (Nat.le_of_ble_eq_true rfl) rfl ?_
    simp only [Try.f48, Option.getD_some, initSt1]
    simp (disch := first | (simp only [go_sem, gb0, eq_self]; done) | omega | (simp only [gl1, gl2]; omega)) only [go_sem, ↓reduceIte, Nat.reduceEqDiff, Nat.reduceAdd, Nat.reduceMul, Nat.reduceSub, Int.reduceToNat, Nat.reduceBEq, hal, c1, c2, hr, List.drop_succ_cons]
  by_cases c3 : cost.length = nx.length
  case neg =>
    have hr : b = false := by rw [hb, chB, decide_eq_false c3]; simp
    have c3' : ¬ (cost.length : Int) = nx.length := by omega
    refine Con_intro Try.func48 rfl ok48 (Nat.le_of_ble_eq_true rfl) rfl ?_
    simp only [Try.f48, Option.getD_some, initSt1]
    simp (disch := first | (simp only [go_sem, gb0, eq_self]; done) | omega | (simp only [gl1, gl2]; omega)) only [go_sem, ↓reduceIte, Nat.reduceEqDiff, Nat.reduceAdd, Nat.reduceMul, Nat.reduceSub, Int.reduceToNat, Nat.reduceBEq, hal, c1, c2, c3, hr, eq_self, decide_true, Bool.not_true, List.drop_succ_cons]
  have c1' := c1
  simp only [inB, Bool.and_eq_true, decide_eq_true_eq] at c1'
  obtain ⟨n, hn⟩ : ∃ n, n = nx.length := ⟨_, rfl⟩
  have hno : ∀ i, i < n → stB nx pay cost i = false → b = false := fun i hi h => by rw [hb]; exact st_no (by omega) h
  have hyes : (∀ i, i < n → stB nx pay cost i = true) → b = true := fun h => by
    rw [hb, chB, c1, c2, c3, allR fun i hi => h i (by omega)]; simp
  have c1n := c1
  have c2n := c2
  have c3n := c3
  rw [← hn] at c1n c2n c3n
  refine Con_intro Try.func48 rfl ok48 (Nat.le_of_ble_eq_true rfl) rfl ?_
  simp only [Try.f48, Option.getD_some, initSt1]
  simp (disch := first | (simp only [go_sem, gb0, eq_self]; done) | omega | (simp only [gl1, gl2]; omega)) only [go_sem, ↓reduceIte, Nat.reduceEqDiff, Nat.reduceAdd, Nat.reduceMul, Nat.reduceSub, Int.reduceToNat, Nat.reduceBEq, hal, c1n, c2n, c3n, eq_self, decide_true, Bool.not_true, List.drop_succ_cons, ← hn]
  refine WP_for 32 n (fun i st h => st 1 = .ptr 0 0 ∧ st 3 = I n ∧ st 30 = LLI nx ∧ st 31 = I n ∧ h.bl 0 = some (.cells false false [LLI nx, LI pay, LI cost]) ∧ ∀ k, k < i → stB nx pay cost k = true) (by simp (disch := first | (simp only [go_sem, gb0, eq_self]; done) | omega | (simp only [gl1, gl2]; omega)) only [go_sem, ↓reduceIte, Nat.reduceEqDiff, Nat.reduceAdd, Nat.reduceMul, Nat.reduceSub, Int.reduceToNat, Nat.reduceBEq]) ⟨by simp (disch := first | (simp only [go_sem, gb0, eq_self]; done) | omega | (simp only [gl1, gl2]; omega)) only [go_sem, ↓reduceIte, Nat.reduceEqDiff, Nat.reduceAdd, Nat.reduceMul, Nat.reduceSub, Int.reduceToNat, Nat.reduceBEq], by simp (disch := first | (simp only [go_sem, gb0, eq_self]; done) | omega | (simp only [gl1, gl2]; omega)) only [go_sem, ↓reduceIte, Nat.reduceEqDiff, Nat.reduceAdd, Nat.reduceMul, Nat.reduceSub, Int.reduceToNat, Nat.reduceBEq], by simp (disch := first | (simp only [go_sem, gb0, eq_self]; done) | omega | (simp only [gl1, gl2]; omega)) only [go_sem, ↓reduceIte, Nat.reduceEqDiff, Nat.reduceAdd, Nat.reduceMul, Nat.reduceSub, Int.reduceToNat, Nat.reduceBEq], by simp (disch := first | (simp only [go_sem, gb0, eq_self]; done) | omega | (simp only [gl1, gl2]; omega)) only [go_sem, ↓reduceIte, Nat.reduceEqDiff, Nat.reduceAdd, Nat.reduceMul, Nat.reduceSub, Int.reduceToNat, Nat.reduceBEq], by simp (disch := first | (simp only [go_sem, gb0, eq_self]; done) | omega | (simp only [gl1, gl2]; omega)) only [go_sem, ↓reduceIte, Nat.reduceEqDiff, Nat.reduceAdd, Nat.reduceMul, Nat.reduceSub, Int.reduceToNat, Nat.reduceBEq], by omega⟩ ?_
  rintro i st h hi s32 ⟨s1, s3, s30, s31, b0, hall⟩
  by_cases hlt : i < n
  case neg =>
    have hr := hyes fun k hk => hall k (by omega)
    simp (disch := first | (simp only [go_sem, gb0, eq_self]; done) | omega | (simp only [gl1, gl2]; omega)) only [go_sem, ↓reduceIte, Nat.reduceEqDiff, Nat.reduceAdd, Nat.reduceMul, Nat.reduceSub, Int.reduceToNat, Nat.reduceBEq, s1, s3, s30, s31, s32, hlt, hr]
  have hi1 : i < nx.length := by omega
  have hi1' : (i : Int) < nx.length := by omega
  have hip : i < pay.length := by omega
  have hip' : (i : Int) < pay.length := by omega
  have hic : i < cost.length := by omega
  have hic' : (i : Int) < cost.length := by omega
  have hnoi := hno i hlt
  have hrl := hk.row _ (nth_mem hi1)
  obtain ⟨r, hr⟩ : ∃ r, r = nth nx i := ⟨_, rfl⟩
  have hrr : nth nx i = r := hr.symm
  rw [hrr] at hrl
  have hst : stB nx pay cost i = (decide (r.length = n) && (inB (nth pay i) 0 1000 && (inB (nth cost i) 0 100 && rowB r))) := by rw [stB, hrr, hn]
  by_cases d1 : r.length = n
  case neg =>
    have hb := hnoi (by rw [hst, decide_eq_false d1]; rfl)
    have d1' : ¬ (r.length : Int) = n := by omega
    simp (disch := first | (simp only [go_sem, gb0, eq_self]; done) | omega | (simp only [gl1, gl2]; omega)) only [go_sem, ↓reduceIte, Nat.reduceEqDiff, Nat.reduceAdd, Nat.reduceMul, Nat.reduceSub, Int.reduceToNat, Nat.reduceBEq, s1, s3, s30, s31, s32, hlt, hi1, hi1', hrr, d1, d1', hb]
  have d1' : (r.length : Int) = n := by omega
  cases d2 : inB (nth pay i) 0 1000 with
  | false =>
    have hb := hnoi (by rw [hst, d2]; simp)
    simp (disch := first | (simp only [go_sem, gb0, eq_self]; done) | omega | (simp only [gl1, gl2]; omega)) only [go_sem, ↓reduceIte, Nat.reduceEqDiff, Nat.reduceAdd, Nat.reduceMul, Nat.reduceSub, Int.reduceToNat, Nat.reduceBEq, s1, s3, s30, s31, s32, hlt, hi1, hi1', hip, hip', hrr, d1, d1', d2, b0, hb, eq_self, decide_true, Bool.not_true, List.drop_succ_cons]
  | true =>
  cases d3 : inB (nth cost i) 0 100 with
  | false =>
    have hb := hnoi (by rw [hst, d3]; simp)
    simp (disch := first | (simp only [go_sem, gb0, eq_self]; done) | omega | (simp only [gl1, gl2]; omega)) only [go_sem, ↓reduceIte, Nat.reduceEqDiff, Nat.reduceAdd, Nat.reduceMul, Nat.reduceSub, Int.reduceToNat, Nat.reduceBEq, s1, s3, s30, s31, s32, hlt, hi1, hi1', hip, hip', hic, hic', hrr, d1, d1', d2, d3, b0, hb, eq_self, decide_true, Bool.not_true, List.drop_succ_cons]
  | true =>
  have hst2 : stB nx pay cost i = rowB r := by rw [hst, decide_eq_true d1, d2, d3]; rfl
  simp (disch := first | (simp only [go_sem, gb0, eq_self]; done) | omega | (simp only [gl1, gl2]; omega)) only [go_sem, ↓reduceIte, Nat.reduceEqDiff, Nat.reduceAdd, Nat.reduceMul, Nat.reduceSub, Int.reduceToNat, Nat.reduceBEq, s1, s3, s30, s31, s32, hlt, hi1, hi1', hip, hip', hic, hic', hrr, d1, d1', d2, d3, b0, eq_self, decide_true, Bool.not_true, List.drop_succ_cons]
  refine WP_cut (fun st h => st 1 = .ptr 0 0 ∧ st 3 = I n ∧ st 30 = LLI nx ∧ st 31 = I n ∧ st 32 = I i ∧ st 6 = I (sumN (fun j => nth r j) n) ∧ h.bl 0 = some (.cells false false [LLI nx, LI pay, LI cost]) ∧ ∀ k, k < n → inB (nth r k) 0 4 = true) ?_ ?_
  · refine WP_for 61 n (fun j st h => st 1 = .ptr 0 0 ∧ st 3 = I n ∧ st 30 = LLI nx ∧ st 31 = I n ∧ st 32 = I i ∧ st 59 = LI r ∧ st 60 = I n ∧ st 6 = I (sumN (fun j => nth r j) j) ∧ h.bl 0 = some (.cells false false [LLI nx, LI pay, LI cost]) ∧ ∀ k, k < j → inB (nth r k) 0 4 = true) (by simp (disch := first | (simp only [go_sem, gb0, eq_self]; done) | omega | (simp only [gl1, gl2]; omega)) only [go_sem, ↓reduceIte, Nat.reduceEqDiff, Nat.reduceAdd, Nat.reduceMul, Nat.reduceSub, Int.reduceToNat, Nat.reduceBEq])
      ⟨by simp (disch := first | (simp only [go_sem, gb0, eq_self]; done) | omega | (simp only [gl1, gl2]; omega)) only [go_sem, ↓reduceIte, Nat.reduceEqDiff, Nat.reduceAdd, Nat.reduceMul, Nat.reduceSub, Int.reduceToNat, Nat.reduceBEq, s1], by simp (disch := first | (simp only [go_sem, gb0, eq_self]; done) | omega | (simp only [gl1, gl2]; omega)) only [go_sem, ↓reduceIte, Nat.reduceEqDiff, Nat.reduceAdd, Nat.reduceMul, Nat.reduceSub, Int.reduceToNat, Nat.reduceBEq, s3], by simp (disch := first | (simp only [go_sem, gb0, eq_self]; done) | omega | (simp only [gl1, gl2]; omega)) only [go_sem, ↓reduceIte, Nat.reduceEqDiff, Nat.reduceAdd, Nat.reduceMul, Nat.reduceSub, Int.reduceToNat, Nat.reduceBEq, s30], by simp (disch := first | (simp only [go_sem, gb0, eq_self]; done) | omega | (simp only [gl1, gl2]; omega)) only [go_sem, ↓reduceIte, Nat.reduceEqDiff, Nat.reduceAdd, Nat.reduceMul, Nat.reduceSub, Int.reduceToNat, Nat.reduceBEq, s31], by simp (disch := first | (simp only [go_sem, gb0, eq_self]; done) | omega | (simp only [gl1, gl2]; omega)) only [go_sem, ↓reduceIte, Nat.reduceEqDiff, Nat.reduceAdd, Nat.reduceMul, Nat.reduceSub, Int.reduceToNat, Nat.reduceBEq, s32], by simp (disch := first | (simp only [go_sem, gb0, eq_self]; done) | omega | (simp only [gl1, gl2]; omega)) only [go_sem, ↓reduceIte, Nat.reduceEqDiff, Nat.reduceAdd, Nat.reduceMul, Nat.reduceSub, Int.reduceToNat, Nat.reduceBEq], by simp (disch := first | (simp only [go_sem, gb0, eq_self]; done) | omega | (simp only [gl1, gl2]; omega)) only [go_sem, ↓reduceIte, Nat.reduceEqDiff, Nat.reduceAdd, Nat.reduceMul, Nat.reduceSub, Int.reduceToNat, Nat.reduceBEq, d1], by simp (disch := first | (simp only [go_sem, gb0, eq_self]; done) | omega | (simp only [gl1, gl2]; omega)) only [go_sem, ↓reduceIte, Nat.reduceEqDiff, Nat.reduceAdd, Nat.reduceMul, Nat.reduceSub, Int.reduceToNat, Nat.reduceBEq]; rfl, by simp (disch := first | (simp only [go_sem, gb0, eq_self]; done) | omega | (simp only [gl1, gl2]; omega)) only [go_sem, ↓reduceIte, Nat.reduceEqDiff, Nat.reduceAdd, Nat.reduceMul, Nat.reduceSub, Int.reduceToNat, Nat.reduceBEq, b0], by omega⟩ ?_
    rintro j st h hj s61 ⟨s1, s3, s30, s31, s32, s59, s60, s6, b0, hpj⟩
    by_cases hjn : j < n
    case neg =>
      have hje : j = n := by omega
      subst hje
      simp (disch := first | (simp only [go_sem, gb0, eq_self]; done) | omega | (simp only [gl1, gl2]; omega)) only [go_sem, ↓reduceIte, Nat.reduceEqDiff, Nat.reduceAdd, Nat.reduceMul, Nat.reduceSub, Int.reduceToNat, Nat.reduceBEq, s1, s3, s30, s31, s32, s59, s60, s61, s6, hjn]
      exact ⟨b0, hpj⟩
    have hjr : j < r.length := by omega
    have hjr' : (j : Int) < r.length := by omega
    cases d4 : inB (nth r j) 0 4 with
    | false =>
      have hb := hnoi (by rw [hst2, rowB, notR hjr (by rw [d4]), Bool.false_and])
      simp (disch := first | (simp only [go_sem, gb0, eq_self]; done) | omega | (simp only [gl1, gl2]; omega)) only [go_sem, ↓reduceIte, Nat.reduceEqDiff, Nat.reduceAdd, Nat.reduceMul, Nat.reduceSub, Int.reduceToNat, Nat.reduceBEq, s1, s3, s30, s31, s32, s59, s60, s61, s6, hjn, hjr, hjr', d4, hb]
    | true =>
      have hsb := sum4 hpj
      have d4' := d4
      simp only [inB, Bool.and_eq_true, decide_eq_true_eq] at d4'
      have hs1 : sumN (fun k => nth r k) (j + 1) = sumN (fun k => nth r k) j + nth r j := rfl
      simp (disch := first | (simp only [go_sem, gb0, eq_self]; done) | omega | (simp only [gl1, gl2]; omega)) only [go_sem, ↓reduceIte, Nat.reduceEqDiff, Nat.reduceAdd, Nat.reduceMul, Nat.reduceSub, Int.reduceToNat, Nat.reduceBEq, s1, s3, s30, s31, s32, s59, s60, s61, s6, hjn, hjr, hjr', d4]
      rw [ForK_normal]
      refine ⟨hjn, by simp (disch := first | (simp only [go_sem, gb0, eq_self]; done) | omega | (simp only [gl1, gl2]; omega)) only [go_sem, ↓reduceIte, Nat.reduceEqDiff, Nat.reduceAdd, Nat.reduceMul, Nat.reduceSub, Int.reduceToNat, Nat.reduceBEq, s61], by simp (disch := first | (simp only [go_sem, gb0, eq_self]; done) | omega | (simp only [gl1, gl2]; omega)) only [go_sem, ↓reduceIte, Nat.reduceEqDiff, Nat.reduceAdd, Nat.reduceMul, Nat.reduceSub, Int.reduceToNat, Nat.reduceBEq, s1], by simp (disch := first | (simp only [go_sem, gb0, eq_self]; done) | omega | (simp only [gl1, gl2]; omega)) only [go_sem, ↓reduceIte, Nat.reduceEqDiff, Nat.reduceAdd, Nat.reduceMul, Nat.reduceSub, Int.reduceToNat, Nat.reduceBEq, s3], by simp (disch := first | (simp only [go_sem, gb0, eq_self]; done) | omega | (simp only [gl1, gl2]; omega)) only [go_sem, ↓reduceIte, Nat.reduceEqDiff, Nat.reduceAdd, Nat.reduceMul, Nat.reduceSub, Int.reduceToNat, Nat.reduceBEq, s30], by simp (disch := first | (simp only [go_sem, gb0, eq_self]; done) | omega | (simp only [gl1, gl2]; omega)) only [go_sem, ↓reduceIte, Nat.reduceEqDiff, Nat.reduceAdd, Nat.reduceMul, Nat.reduceSub, Int.reduceToNat, Nat.reduceBEq, s31], by simp (disch := first | (simp only [go_sem, gb0, eq_self]; done) | omega | (simp only [gl1, gl2]; omega)) only [go_sem, ↓reduceIte, Nat.reduceEqDiff, Nat.reduceAdd, Nat.reduceMul, Nat.reduceSub, Int.reduceToNat, Nat.reduceBEq, s32], by simp (disch := first | (simp only [go_sem, gb0, eq_self]; done) | omega | (simp only [gl1, gl2]; omega)) only [go_sem, ↓reduceIte, Nat.reduceEqDiff, Nat.reduceAdd, Nat.reduceMul, Nat.reduceSub, Int.reduceToNat, Nat.reduceBEq, s59], by simp (disch := first | (simp only [go_sem, gb0, eq_self]; done) | omega | (simp only [gl1, gl2]; omega)) only [go_sem, ↓reduceIte, Nat.reduceEqDiff, Nat.reduceAdd, Nat.reduceMul, Nat.reduceSub, Int.reduceToNat, Nat.reduceBEq, s60], by (rw [hs1]; simp (disch := first | (simp only [go_sem, gb0, eq_self]; done) | omega | (simp only [gl1, gl2]; omega)) only [go_sem, ↓reduceIte, Nat.reduceEqDiff, Nat.reduceAdd, Nat.reduceMul, Nat.reduceSub, Int.reduceToNat, Nat.reduceBEq]), b0, fun k hk => ?_⟩
      by_cases hkj : k = j
      · subst hkj; exact d4
      · exact hpj k (by omega)
  · rintro st h ⟨s1, s3, s30, s31, s32, s6, b0, hpj⟩
    have hrb : rowB r = decide (sumN (fun j => nth r j) n ≤ 4) := by rw [rowB, d1, allR hpj, Bool.true_and]
    by_cases d5 : 4 < sumN (fun j => nth r j) n
    · have hb := hnoi (by rw [hst2, hrb]; exact decide_eq_false (by omega))
      simp (disch := first | (simp only [go_sem, gb0, eq_self]; done) | omega | (simp only [gl1, gl2]; omega)) only [go_sem, ↓reduceIte, Nat.reduceEqDiff, Nat.reduceAdd, Nat.reduceMul, Nat.reduceSub, Int.reduceToNat, Nat.reduceBEq, s1, s3, s30, s31, s32, s6, d5, hb]
    · simp (disch := first | (simp only [go_sem, gb0, eq_self]; done) | omega | (simp only [gl1, gl2]; omega)) only [go_sem, ↓reduceIte, Nat.reduceEqDiff, Nat.reduceAdd, Nat.reduceMul, Nat.reduceSub, Int.reduceToNat, Nat.reduceBEq, s1, s3, s30, s31, s32, s6, d5]
      rw [ForK_normal]
      refine ⟨hlt, by simp (disch := first | (simp only [go_sem, gb0, eq_self]; done) | omega | (simp only [gl1, gl2]; omega)) only [go_sem, ↓reduceIte, Nat.reduceEqDiff, Nat.reduceAdd, Nat.reduceMul, Nat.reduceSub, Int.reduceToNat, Nat.reduceBEq, s32], by simp (disch := first | (simp only [go_sem, gb0, eq_self]; done) | omega | (simp only [gl1, gl2]; omega)) only [go_sem, ↓reduceIte, Nat.reduceEqDiff, Nat.reduceAdd, Nat.reduceMul, Nat.reduceSub, Int.reduceToNat, Nat.reduceBEq, s1], by simp (disch := first | (simp only [go_sem, gb0, eq_self]; done) | omega | (simp only [gl1, gl2]; omega)) only [go_sem, ↓reduceIte, Nat.reduceEqDiff, Nat.reduceAdd, Nat.reduceMul, Nat.reduceSub, Int.reduceToNat, Nat.reduceBEq, s3], by simp (disch := first | (simp only [go_sem, gb0, eq_self]; done) | omega | (simp only [gl1, gl2]; omega)) only [go_sem, ↓reduceIte, Nat.reduceEqDiff, Nat.reduceAdd, Nat.reduceMul, Nat.reduceSub, Int.reduceToNat, Nat.reduceBEq, s30], by simp (disch := first | (simp only [go_sem, gb0, eq_self]; done) | omega | (simp only [gl1, gl2]; omega)) only [go_sem, ↓reduceIte, Nat.reduceEqDiff, Nat.reduceAdd, Nat.reduceMul, Nat.reduceSub, Int.reduceToNat, Nat.reduceBEq, s31], b0, fun k hk => ?_⟩
      by_cases hki : k = i
      · subst hki; rw [hst2, hrb]; exact decide_eq_true (by omega)
      · exact hall k (by omega)
end Go.Proofs.Ytgamcclfdkpcgaa

set_option linter.unusedVariables false
set_option linter.unusedSimpArgs false
set_option maxRecDepth 10000
namespace Go.Proofs.Ytgamcclfdkpcgaa
open Go Go.Am

variable {h h' : Hp} {K : AV → Hp → Prop}

def hasB (l : List Int) (v : Int) : Bool := l.any fun x => decide (x = v)
theorem hasB_take (l : List Int) (v : Int) (j : Nat) (hj : j < l.length) : hasB (l.take (j + 1)) v = (hasB (l.take j) v || decide (nth l j = v)) := by
  have e : l.take (j + 1) = l.take j ++ [nth l j] := by rw [List.take_succ_eq_append_getElem hj, nth_getElem hj]
  rw [hasB, e, List.any_append]; simp [hasB]
theorem hasB_all (l : List Int) (v : Int) {j : Nat} (hj : l.length ≤ j) : hasB (l.take j) v = hasB l v := by rw [List.take_of_length_le hj]
end Go.Proofs.Ytgamcclfdkpcgaa

set_option linter.unusedVariables false
set_option linter.unusedSimpArgs false
set_option maxRecDepth 10000
namespace Go.Proofs.Ytgamcclfdkpcgaa
open Go Go.Am

variable {h h' : Hp} {K : AV → Hp → Prop}

theorem vecA_flat (f : Nat → Int) (N : Nat) : vecA f N = ((List.range N).map f).flatMap (e1 I) := by
  rw [vecA]
  induction N with
  | zero => rfl
  | succ n ih => rw [List.range_succ, List.map_append, List.map_append, List.flatMap_append, ← ih]; rfl
theorem vecA_zero (N : Nat) : (List.replicate N (0 : Int)).flatMap (e1 I) = vecA (fun _ => 0) N := by
  rw [vecA_flat, List.map_const', List.length_range]
def setV (f : Nat → Int) (k : Nat) (v : Int) : Nat → Int := fun j => if j = k then v else f j
@[go_sem] theorem vecA_store (f : Nat → Int) (id N k : Nat) (row : Bool) (v : Int) (hk : k < N) : storeC h id k 1 (some (.cells false row (vecA f N))) [.int .i64 v] = some (.skp, h.put id (some (.cells false row (vecA (setV f k v) N)))) := by
  rw [storeC_one id _ row _ (I v) rfl (by rw [vecA_len]; omega)]
  congr 5
  refine List.ext_getElem? fun j => ?_
  rw [List.getElem?_set]
  by_cases hj : j < N
  · by_cases e : k = j
    · subst e
      rw [if_pos rfl, if_pos (by rw [vecA_len]; omega), vecA_get _ _ _ hj]
      simp [setV]
    · rw [if_neg e, vecA_get _ _ _ hj, vecA_get _ _ _ hj]
      simp [setV, Ne.symm e]
  · rw [if_neg (by omega), List.getElem?_eq_none (by rw [vecA_len]; omega), List.getElem?_eq_none (by rw [vecA_len]; omega)]
theorem seal_vec {id N : Nat} {fz row : Bool} {f : Nat → Int} (hb : h.bl id = some (.cells fz row (vecA f N))) : sealA h (.sl id 0 N 1) = some (LI ((List.range N).map f), h.put id (some (.cells true row (vecA f N)))) := by
  rw [vecA_flat] at hb ⊢
  rw [sealA_sl, hb]
  exact sealSl_own (f := e1 I) (sz := 1) (h := h) id N fz row ((List.range N).map f) (by simp)

/-- A list that is being built in blocks from b on. -/
def OwnGe {α : Type} (b : Nat) (f : α → List AV) (sz : Nat) (h : Hp) (v : AV) (xs : List α) : Prop :=
  (v = .nil ∧ xs = []) ∨ ∃ id, b ≤ id ∧ v = .sl id 0 xs.length sz ∧ id < h.nx ∧ h.bl id = some (.cells false true (xs.flatMap f))
theorem OwnGe.own {α : Type} {b : Nat} {f : α → List AV} {sz : Nat} {v : AV} {xs : List α} (o : OwnGe b f sz h v xs) : Go.Am.Own f sz h v xs := by
  rcases o with o | ⟨id, _, o⟩
  · exact .inl o
  · exact .inr ⟨id, o⟩
theorem OwnGe.mono {α : Type} {b : Nat} {f : α → List AV} {sz : Nat} {v : AV} {xs : List α} (o : OwnGe b f sz h v xs) (hn : h.nx ≤ h'.nx) (hb : ∀ id, b ≤ id → id < h.nx → h'.bl id = h.bl id) : OwnGe b f sz h' v xs := by
  rcases o with o | ⟨id, h1, e, h2, h3⟩
  · exact .inl o
  · exact .inr ⟨id, h1, e, by omega, by rw [hb id h1 h2]; exact h3⟩
theorem OwnGe.low {α : Type} {b : Nat} {f : α → List AV} {sz : Nat} {v : AV} {xs : List α} (o : OwnGe b f sz h v xs) {flat : List AV} {i : Nat} (hi : i < b) (hib : i < h.nx) : (appH h v flat).bl i = h.bl i := by
  refine appH_bl _ _ _ _ hib fun id off n s e => ?_
  rcases o with ⟨rfl, _⟩ | ⟨id', h1, e', _⟩
  · cases e
  · rw [e'] at e; cases e; omega
theorem OwnGe.app {α : Type} {b : Nat} {f : α → List AV} {sz : Nat} {v : AV} (h : Hp) (hb : b ≤ h.nx) (xs : List α) : OwnGe b f sz (appH h v (xs.flatMap f)) (appV h xs.length sz) xs := by
  rcases Own.app (f := f) (sz := sz) h v xs with ⟨e, _⟩ | ⟨id, e, h1, h2⟩
  · cases e
  · refine .inr ⟨id, ?_, e, h1, h2⟩
    unfold appV at e; cases e; exact hb
end Go.Proofs.Ytgamcclfdkpcgaa

set_option linter.unusedVariables false
set_option linter.unusedSimpArgs false
set_option maxRecDepth 10000
namespace Go.Proofs.Ytgamcclfdkpcgaa
open Go Go.Am

variable {h h' : Hp} {K : AV → Hp → Prop}

theorem f30_nil (p c : List Int) : Con Try.prog cfg 30 [.agg [.nil, LI p, LI c]] (.bool false) := by
  have hal : ∀ g : Hp, allocB g (some (.agg [.nil, LI p, LI c])) = some (.ptr g.nx 0, g.alloc (.cells false false [.nil, LI p, LI c])) := fun g => allocB_agg _ rfl
  have h01 : (0 : Int) < 1 := by decide
  have hl : ∀ h lim, lenB (some (.slice 23)) .nil h lim = some (I 0) := fun _ _ => rfl
  refine Con_intro Try.func30 rfl ok30 (Nat.le_of_ble_eq_true rfl) rfl ?_
  simp only [Try.f30, Option.getD_some, initSt1]
  simp (disch := first | (simp only [go_sem, gb0, eq_self]; done) | omega | (simp only [gl1, gl2]; omega)) only [go_sem, ↓reduceIte, Nat.reduceEqDiff, Nat.reduceAdd, Nat.reduceMul, Nat.reduceSub, Int.reduceToNat, Nat.reduceBEq, hal, hl, h01]
theorem f30_con (nx : List (List Int)) (pay cost : List Int) (hk : okN nx pay cost) : Con Try.prog cfg 30 [chA nx pay cost] (.bool (chB nx pay cost)) := by
  have ml : maxLen = 9223372036854775807 := by decide
  have hkn := hk.n
  have hkp := hk.p
  have hkc := hk.c
  have hal : ∀ g : Hp, allocB g (some (chA nx pay cost)) = some (.ptr g.nx 0, g.alloc (.cells false false [LLI nx, LI pay, LI cost])) := fun g => allocB_agg _ rfl
  obtain ⟨b, hb⟩ : ∃ b, b = chB nx pay cost := ⟨_, rfl⟩
  rw [← hb]
  by_cases e1 : (nx.length : Int) < 1
  · have hr : b = false := by rw [hb, chB, show inB nx.length 1 6 = false from by simp [inB]; omega]; rfl
    refine Con_intro Try.func30 rfl ok30 (Nat.le_of_ble_eq_true rfl) rfl ?_
    simp only [Try.f30, Option.getD_some, initSt1]
    simp (disch := first | (simp only [go_sem, gb0, eq_self]; done) | omega | (simp only [gl1, gl2]; omega)) only [go_sem, ↓reduceIte, Nat.reduceEqDiff, Nat.reduceAdd, Nat.reduceMul, Nat.reduceSub, Int.reduceToNat, Nat.reduceBEq, hal, e1, hr]
  by_cases e2 : 6 < (nx.length : Int)
  · have hr : b = false := by rw [hb, chB, show inB nx.length 1 6 = false from by simp [inB]; omega]; rfl
    refine Con_intro Try.func30 rfl ok30 (Nat.le_of_ble_eq_true rfl) rfl ?_
    simp only [Try.f30, Option.getD_some, initSt1]
    simp (disch := first | (simp only [go_sem, gb0, eq_self]; done) | omega | (simp only [gl1, gl2]; omega)) only [go_sem, ↓reduceIte, Nat.reduceEqDiff, Nat.reduceAdd, Nat.reduceMul, Nat.reduceSub, Int.reduceToNat, Nat.reduceBEq, hal, e1, e2, hr]
  by_cases c2 : pay.length = nx.length
  case neg =>
    have hr : b = false := by rw [hb, chB, decide_eq_false c2]; simp
    have c2' : ¬ (pay.length : Int) = nx.length := by omega
    refine Con_intro Try.func30 rfl ok30 (Nat.le_of_ble_eq_true rfl) rfl ?_
    simp only [Try.f30, Option.getD_some, initSt1]
    simp (disch := first | (simp only [go_sem, gb0, eq_self]; done) | omega | (simp only [gl1, gl2]; omega)) only [go_sem, ↓reduceIte, Nat.reduceEqDiff, Nat.reduceAdd, Nat.reduceMul, Nat.reduceSub, Int.reduceToNat, Nat.reduceBEq, hal, e1, e2, c2, hr, List.drop_succ_cons]
  by_cases c3 : cost.length = nx.length
  case neg =>
    have hr : b = false := by rw [hb, chB, decide_eq_false c3]; simp
    have c3' : ¬ (cost.length : Int) = nx.length := by omega
    refine Con_intro Try.func30 rfl ok30 (Nat.le_of_ble_eq_true rfl) rfl ?_
    simp only [Try.f30, Option.getD_some, initSt1]
    simp (disch := first | (simp only [go_sem, gb0, eq_self]; done) | omega | (simp only [gl1, gl2]; omega)) only [go_sem, ↓reduceIte, Nat.reduceEqDiff, Nat.reduceAdd, Nat.reduceMul, Nat.reduceSub, Int.reduceToNat, Nat.reduceBEq, hal, e1, e2, c2, c3, hr, eq_self, decide_true, Bool.not_true, List.drop_succ_cons]
  obtain ⟨n, hn⟩ : ∃ n, n = nx.length := ⟨_, rfl⟩
  have hno : ∀ i, i < n → stB nx pay cost i = false → b = false := fun i hi h => by rw [hb]; exact st_no (by omega) h
  have hyes : (∀ i, i < n → stB nx pay cost i = true) → b = true := fun h => by
    rw [hb, chB, c2, c3, allR fun i hi => h i (by omega), show inB nx.length 1 6 = true from by simp [inB]; omega]; simp
  have e1n := e1
  have e2n := e2
  have c2n := c2
  have c3n := c3
  rw [← hn] at e1n e2n c2n c3n
  refine Con_intro Try.func30 rfl ok30 (Nat.le_of_ble_eq_true rfl) rfl ?_
  simp only [Try.f30, Option.getD_some, initSt1]
  simp (disch := first | (simp only [go_sem, gb0, eq_self]; done) | omega | (simp only [gl1, gl2]; omega)) only [go_sem, ↓reduceIte, Nat.reduceEqDiff, Nat.reduceAdd, Nat.reduceMul, Nat.reduceSub, Int.reduceToNat, Nat.reduceBEq, hal, e1n, e2n, c2n, c3n, eq_self, decide_true, Bool.not_true, List.drop_succ_cons, ← hn]
  refine WP_for 4 n (fun i st h => st 1 = .ptr 0 0 ∧ st 3 = I n ∧ h.bl 0 = some (.cells false false [LLI nx, LI pay, LI cost]) ∧ ∀ k, k < i → stB nx pay cost k = true) (by simp (disch := first | (simp only [go_sem, gb0, eq_self]; done) | omega | (simp only [gl1, gl2]; omega)) only [go_sem, ↓reduceIte, Nat.reduceEqDiff, Nat.reduceAdd, Nat.reduceMul, Nat.reduceSub, Int.reduceToNat, Nat.reduceBEq]) ⟨by simp (disch := first | (simp only [go_sem, gb0, eq_self]; done) | omega | (simp only [gl1, gl2]; omega)) only [go_sem, ↓reduceIte, Nat.reduceEqDiff, Nat.reduceAdd, Nat.reduceMul, Nat.reduceSub, Int.reduceToNat, Nat.reduceBEq], by simp (disch := first | (simp only [go_sem, gb0, eq_self]; done) | omega | (simp only [gl1, gl2]; omega)) only [go_sem, ↓reduceIte, Nat.reduceEqDiff, Nat.reduceAdd, Nat.reduceMul, Nat.reduceSub, Int.reduceToNat, Nat.reduceBEq], by simp (disch := first | (simp only [go_sem, gb0, eq_self]; done) | omega | (simp only [gl1, gl2]; omega)) only [go_sem, ↓reduceIte, Nat.reduceEqDiff, Nat.reduceAdd, Nat.reduceMul, Nat.reduceSub, Int.reduceToNat, Nat.reduceBEq], by omega⟩ ?_
  rintro i st h hi s4 ⟨s1, s3, b0, hall⟩
  by_cases hlt : i < n
  case neg =>
    have hr := hyes fun k hk => hall k (by omega)
    simp (disch := first | (simp only [go_sem, gb0, eq_self]; done) | omega | (simp only [gl1, gl2]; omega)) only [go_sem, ↓reduceIte, Nat.reduceEqDiff, Nat.reduceAdd, Nat.reduceMul, Nat.reduceSub, Int.reduceToNat, Nat.reduceBEq, s1, s3, s4, hlt, hr]
  have hi1 : i < nx.length := by omega
  have hi1' : (i : Int) < nx.length := by omega
  have hip : i < pay.length := by omega
  have hip' : (i : Int) < pay.length := by omega
  have hic : i < cost.length := by omega
  have hic' : (i : Int) < cost.length := by omega
  have hnoi := hno i hlt
  have hrl := hk.row _ (nth_mem hi1)
  obtain ⟨r, hr⟩ : ∃ r, r = nth nx i := ⟨_, rfl⟩
  have hrr : nth nx i = r := hr.symm
  rw [hrr] at hrl
  have hst : stB nx pay cost i = (decide (r.length = n) && (inB (nth pay i) 0 1000 && (inB (nth cost i) 0 100 && rowB r))) := by rw [stB, hrr, hn]
  by_cases d1 : r.length = n
  case neg =>
    have hb := hnoi (by rw [hst, decide_eq_false d1]; rfl)
    have d1' : ¬ (r.length : Int) = n := by omega
    simp (disch := first | (simp only [go_sem, gb0, eq_self]; done) | omega | (simp only [gl1, gl2]; omega)) only [go_sem, ↓reduceIte, Nat.reduceEqDiff, Nat.reduceAdd, Nat.reduceMul, Nat.reduceSub, Int.reduceToNat, Nat.reduceBEq, s1, s3, s4, hlt, hi1, hi1', hrr, d1, d1', b0, hb]
  have d1' : (r.length : Int) = n := by omega
  have hin : ∀ {x lo hi : Int}, ¬ (lo ≤ x ∧ x ≤ hi) → inB x lo hi = false := fun h => by
    rw [inB, Bool.and_eq_false_iff, decide_eq_false_iff_not, decide_eq_false_iff_not]; omega
  by_cases d2 : nth pay i < 0
  · have hb := hnoi (by rw [hst, hin (x := nth pay i) (by omega)]; simp)
    simp (disch := first | (simp only [go_sem, gb0, eq_self]; done) | omega | (simp only [gl1, gl2]; omega)) only [go_sem, ↓reduceIte, Nat.reduceEqDiff, Nat.reduceAdd, Nat.reduceMul, Nat.reduceSub, Int.reduceToNat, Nat.reduceBEq, s1, s3, s4, hlt, hi1, hi1', hip, hip', hrr, d1, d1', d2, b0, hb, eq_self, decide_true, Bool.not_true, List.drop_succ_cons]
  by_cases d3 : 1000 < nth pay i
  · have hb := hnoi (by rw [hst, hin (x := nth pay i) (by omega)]; simp)
    simp (disch := first | (simp only [go_sem, gb0, eq_self]; done) | omega | (simp only [gl1, gl2]; omega)) only [go_sem, ↓reduceIte, Nat.reduceEqDiff, Nat.reduceAdd, Nat.reduceMul, Nat.reduceSub, Int.reduceToNat, Nat.reduceBEq, s1, s3, s4, hlt, hi1, hi1', hip, hip', hrr, d1, d1', d2, d3, b0, hb, eq_self, decide_true, Bool.not_true, List.drop_succ_cons]
  by_cases d4 : nth cost i < 0
  · have hb := hnoi (by rw [hst, hin (x := nth cost i) (by omega)]; simp)
    simp (disch := first | (simp only [go_sem, gb0, eq_self]; done) | omega | (simp only [gl1, gl2]; omega)) only [go_sem, ↓reduceIte, Nat.reduceEqDiff, Nat.reduceAdd, Nat.reduceMul, Nat.reduceSub, Int.reduceToNat, Nat.reduceBEq, s1, s3, s4, hlt, hi1, hi1', hip, hip', hic, hic', hrr, d1, d1', d2, d3, d4, b0, hb, eq_self, decide_true, Bool.not_true, List.drop_succ_cons]
  by_cases d5 : 100 < nth cost i
  · have hb := hnoi (by rw [hst, hin (x := nth cost i) (by omega)]; simp)
    simp (disch := first | (simp only [go_sem, gb0, eq_self]; done) | omega | (simp only [gl1, gl2]; omega)) only [go_sem, ↓reduceIte, Nat.reduceEqDiff, Nat.reduceAdd, Nat.reduceMul, Nat.reduceSub, Int.reduceToNat, Nat.reduceBEq, s1, s3, s4, hlt, hi1, hi1', hip, hip', hic, hic', hrr, d1, d1', d2, d3, d4, d5, b0, hb, eq_self, decide_true, Bool.not_true, List.drop_succ_cons]
  have hst2 : stB nx pay cost i = rowB r := by
    rw [hst, decide_eq_true d1, show inB (nth pay i) 0 1000 = true from by simp [inB]; omega, show inB (nth cost i) 0 100 = true from by simp [inB]; omega]; rfl
  simp (disch := first | (simp only [go_sem, gb0, eq_self]; done) | omega | (simp only [gl1, gl2]; omega)) only [go_sem, ↓reduceIte, Nat.reduceEqDiff, Nat.reduceAdd, Nat.reduceMul, Nat.reduceSub, Int.reduceToNat, Nat.reduceBEq, s1, s3, s4, hlt, hi1, hi1', hip, hip', hic, hic', hrr, d1, d1', d2, d3, d4, d5, b0, eq_self, decide_true, Bool.not_true, List.drop_succ_cons]
  refine WP_cut (fun st h => st 1 = .ptr 0 0 ∧ st 3 = I n ∧ st 4 = I i ∧ st 5 = I (sumN (fun j => nth r j) n) ∧ h.bl 0 = some (.cells false false [LLI nx, LI pay, LI cost]) ∧ ∀ k, k < n → inB (nth r k) 0 4 = true) ?_ ?_
  · refine WP_for 6 n (fun j st h => st 1 = .ptr 0 0 ∧ st 3 = I n ∧ st 4 = I i ∧ st 5 = I (sumN (fun j => nth r j) j) ∧ h.bl 0 = some (.cells false false [LLI nx, LI pay, LI cost]) ∧ ∀ k, k < j → inB (nth r k) 0 4 = true) (by simp (disch := first | (simp only [go_sem, gb0, eq_self]; done) | omega | (simp only [gl1, gl2]; omega)) only [go_sem, ↓reduceIte, Nat.reduceEqDiff, Nat.reduceAdd, Nat.reduceMul, Nat.reduceSub, Int.reduceToNat, Nat.reduceBEq])
      ⟨by simp (disch := first | (simp only [go_sem, gb0, eq_self]; done) | omega | (simp only [gl1, gl2]; omega)) only [go_sem, ↓reduceIte, Nat.reduceEqDiff, Nat.reduceAdd, Nat.reduceMul, Nat.reduceSub, Int.reduceToNat, Nat.reduceBEq, s1], by simp (disch := first | (simp only [go_sem, gb0, eq_self]; done) | omega | (simp only [gl1, gl2]; omega)) only [go_sem, ↓reduceIte, Nat.reduceEqDiff, Nat.reduceAdd, Nat.reduceMul, Nat.reduceSub, Int.reduceToNat, Nat.reduceBEq, s3], by simp (disch := first | (simp only [go_sem, gb0, eq_self]; done) | omega | (simp only [gl1, gl2]; omega)) only [go_sem, ↓reduceIte, Nat.reduceEqDiff, Nat.reduceAdd, Nat.reduceMul, Nat.reduceSub, Int.reduceToNat, Nat.reduceBEq, s4], by simp (disch := first | (simp only [go_sem, gb0, eq_self]; done) | omega | (simp only [gl1, gl2]; omega)) only [go_sem, ↓reduceIte, Nat.reduceEqDiff, Nat.reduceAdd, Nat.reduceMul, Nat.reduceSub, Int.reduceToNat, Nat.reduceBEq]; rfl, by simp (disch := first | (simp only [go_sem, gb0, eq_self]; done) | omega | (simp only [gl1, gl2]; omega)) only [go_sem, ↓reduceIte, Nat.reduceEqDiff, Nat.reduceAdd, Nat.reduceMul, Nat.reduceSub, Int.reduceToNat, Nat.reduceBEq, b0], by omega⟩ ?_
    rintro j st h hj s6 ⟨s1, s3, s4, s5, b0, hpj⟩
    by_cases hjn : j < n
    case neg =>
      have hje : j = n := by omega
      subst hje
      simp (disch := first | (simp only [go_sem, gb0, eq_self]; done) | omega | (simp only [gl1, gl2]; omega)) only [go_sem, ↓reduceIte, Nat.reduceEqDiff, Nat.reduceAdd, Nat.reduceMul, Nat.reduceSub, Int.reduceToNat, Nat.reduceBEq, s1, s3, s4, s5, s6, hjn]
      exact ⟨b0, hpj⟩
    have hjr : j < r.length := by omega
    have hjr' : (j : Int) < r.length := by omega
    by_cases f1 : nth r j < 0
    · have hb := hnoi (by rw [hst2, rowB, notR hjr (hin (x := nth r j) (by omega)), Bool.false_and])
      simp (disch := first | (simp only [go_sem, gb0, eq_self]; done) | omega | (simp only [gl1, gl2]; omega)) only [go_sem, ↓reduceIte, Nat.reduceEqDiff, Nat.reduceAdd, Nat.reduceMul, Nat.reduceSub, Int.reduceToNat, Nat.reduceBEq, s1, s3, s4, s5, s6, hi1, hi1', hrr, hjn, hjr, hjr', b0, f1, hb]
    by_cases f2 : 4 < nth r j
    · have hb := hnoi (by rw [hst2, rowB, notR hjr (hin (x := nth r j) (by omega)), Bool.false_and])
      simp (disch := first | (simp only [go_sem, gb0, eq_self]; done) | omega | (simp only [gl1, gl2]; omega)) only [go_sem, ↓reduceIte, Nat.reduceEqDiff, Nat.reduceAdd, Nat.reduceMul, Nat.reduceSub, Int.reduceToNat, Nat.reduceBEq, s1, s3, s4, s5, s6, hi1, hi1', hrr, hjn, hjr, hjr', b0, f1, f2, hb]
    have hsb := sum4 hpj
    have hs1 : sumN (fun k => nth r k) (j + 1) = sumN (fun k => nth r k) j + nth r j := rfl
    simp (disch := first | (simp only [go_sem, gb0, eq_self]; done) | omega | (simp only [gl1, gl2]; omega)) only [go_sem, ↓reduceIte, Nat.reduceEqDiff, Nat.reduceAdd, Nat.reduceMul, Nat.reduceSub, Int.reduceToNat, Nat.reduceBEq, s1, s3, s4, s5, s6, hi1, hi1', hrr, hjn, hjr, hjr', b0, f1, f2]
    rw [ForK_normal]
    refine ⟨hjn, by simp (disch := first | (simp only [go_sem, gb0, eq_self]; done) | omega | (simp only [gl1, gl2]; omega)) only [go_sem, ↓reduceIte, Nat.reduceEqDiff, Nat.reduceAdd, Nat.reduceMul, Nat.reduceSub, Int.reduceToNat, Nat.reduceBEq, s6], by simp (disch := first | (simp only [go_sem, gb0, eq_self]; done) | omega | (simp only [gl1, gl2]; omega)) only [go_sem, ↓reduceIte, Nat.reduceEqDiff, Nat.reduceAdd, Nat.reduceMul, Nat.reduceSub, Int.reduceToNat, Nat.reduceBEq, s1], by simp (disch := first | (simp only [go_sem, gb0, eq_self]; done) | omega | (simp only [gl1, gl2]; omega)) only [go_sem, ↓reduceIte, Nat.reduceEqDiff, Nat.reduceAdd, Nat.reduceMul, Nat.reduceSub, Int.reduceToNat, Nat.reduceBEq, s3], by simp (disch := first | (simp only [go_sem, gb0, eq_self]; done) | omega | (simp only [gl1, gl2]; omega)) only [go_sem, ↓reduceIte, Nat.reduceEqDiff, Nat.reduceAdd, Nat.reduceMul, Nat.reduceSub, Int.reduceToNat, Nat.reduceBEq, s4], by (rw [hs1]; simp (disch := first | (simp only [go_sem, gb0, eq_self]; done) | omega | (simp only [gl1, gl2]; omega)) only [go_sem, ↓reduceIte, Nat.reduceEqDiff, Nat.reduceAdd, Nat.reduceMul, Nat.reduceSub, Int.reduceToNat, Nat.reduceBEq]), b0, fun k hk => ?_⟩
    by_cases hkj : k = j
    · subst hkj; simp [inB]; omega
    · exact hpj k (by omega)
  · rintro st h ⟨s1, s3, s4, s5, b0, hpj⟩
    have hrb : rowB r = decide (sumN (fun j => nth r j) n ≤ 4) := by rw [rowB, d1, allR hpj, Bool.true_and]
    by_cases d5 : 4 < sumN (fun j => nth r j) n
    · have hb := hnoi (by rw [hst2, hrb]; exact decide_eq_false (by omega))
      simp (disch := first | (simp only [go_sem, gb0, eq_self]; done) | omega | (simp only [gl1, gl2]; omega)) only [go_sem, ↓reduceIte, Nat.reduceEqDiff, Nat.reduceAdd, Nat.reduceMul, Nat.reduceSub, Int.reduceToNat, Nat.reduceBEq, s1, s3, s4, s5, d5, hb]
    · simp (disch := first | (simp only [go_sem, gb0, eq_self]; done) | omega | (simp only [gl1, gl2]; omega)) only [go_sem, ↓reduceIte, Nat.reduceEqDiff, Nat.reduceAdd, Nat.reduceMul, Nat.reduceSub, Int.reduceToNat, Nat.reduceBEq, s1, s3, s4, s5, d5]
      rw [ForK_normal]
      refine ⟨hlt, by simp (disch := first | (simp only [go_sem, gb0, eq_self]; done) | omega | (simp only [gl1, gl2]; omega)) only [go_sem, ↓reduceIte, Nat.reduceEqDiff, Nat.reduceAdd, Nat.reduceMul, Nat.reduceSub, Int.reduceToNat, Nat.reduceBEq, s4], by simp (disch := first | (simp only [go_sem, gb0, eq_self]; done) | omega | (simp only [gl1, gl2]; omega)) only [go_sem, ↓reduceIte, Nat.reduceEqDiff, Nat.reduceAdd, Nat.reduceMul, Nat.reduceSub, Int.reduceToNat, Nat.reduceBEq, s1], by simp (disch := first | (simp only [go_sem, gb0, eq_self]; done) | omega | (simp only [gl1, gl2]; omega)) only [go_sem, ↓reduceIte, Nat.reduceEqDiff, Nat.reduceAdd, Nat.reduceMul, Nat.reduceSub, Int.reduceToNat, Nat.reduceBEq, s3], b0, fun k hk => ?_⟩
      by_cases hki : k = i
      · subst hki; rw [hst2, hrb]; exact decide_eq_true (by omega)
      · exact hall k (by omega)
end Go.Proofs.Ytgamcclfdkpcgaa

set_option linter.unusedVariables false
set_option linter.unusedSimpArgs false
set_option maxRecDepth 10000
namespace Go.Proofs.Ytgamcclfdkpcgaa
open Go Go.Am Go.RowKit Go.ChangeShapes Go.WideShapes

/-- A struct of three fields, each of one cell. -/
theorem Rd.three {P : Program} {t : TypeId} {α β γ : Type} {ga : α → Prop} {gb : β → Prop} {gc : γ → Prop} {fa : α → AV} {fb : β → AV} {fc : γ → AV} {f0 f1 f2 : Field} (ht : P.underlying t = some (.struct #[f0, f1, f2]))
    (h0 : f0.offset = 0) (h1 : f1.offset = 1) (h2 : f2.offset = 2) (ca : P.cellsOf f0.type = 1) (cb : P.cellsOf f1.type = 1) (cc : P.cellsOf f2.type = 1) (ct : P.cellsOf t = 3)
    (ha : Rd P f0.type ga (e1 fa)) (hb : Rd P f1.type gb (e1 fb)) (hc : Rd P f2.type gc (e1 fc)) :
    Rd P t (fun x : α × β × γ => ga x.1 ∧ gb x.2.1 ∧ gc x.2.2) (fun x => [fa x.1, fb x.2.1, fc x.2.2]) := by
  intro H enc w held fuel cs x h
  obtain ⟨ys, m, _, _, hl, hyl, hi⟩ := DataW.trod_struct ht h
  have i0 := hi 0 f0 rfl
  have i1 := hi 1 f1 rfl
  have i2 := hi 2 f2 rfl
  have e0 : (#[f0, f1, f2] : Array Field).size = 3 := rfl
  rw [e0] at hyl
  rw [List.getElem?_eq_getElem (by omega)] at i0 i1 i2
  obtain ⟨a, ga', ra⟩ := ha i0
  obtain ⟨b, gb', rb⟩ := hb i1
  obtain ⟨c, gc', rc⟩ := hc i2
  rw [h0, ca] at ra
  rw [h1, cb] at rb
  rw [h2, cc] at rc
  refine ⟨(a, b, c), ⟨ga', gb', gc'⟩, ?_, fun j u hu => ?_⟩
  · show 3 = _; omega
  · match j with
    | 0 =>
      cases hu
      obtain ⟨g1, v, g2, g3⟩ := ra.2 0 _ rfl
      refine ⟨g1, v, ?_, g3⟩
      rw [List.drop_zero, List.getElem?_take, if_pos (by omega)] at g2
      exact g2
    | 1 =>
      cases hu
      obtain ⟨g1, v, g2, g3⟩ := rb.2 0 _ rfl
      refine ⟨g1, v, ?_, g3⟩
      rw [List.getElem?_take, if_pos (by omega), List.getElem?_drop] at g2
      exact g2
    | 2 =>
      cases hu
      obtain ⟨g1, v, g2, g3⟩ := rc.2 0 _ rfl
      refine ⟨g1, v, ?_, g3⟩
      rw [List.getElem?_take, if_pos (by omega), List.getElem?_drop] at g2
      exact g2
    | j + 3 => cases hu
theorem rdI : Rd Try.prog 3 Go.Am.ok64 (e1 I) := Rd.int und3
theorem rdLI : Rd Try.prog 23 (fun xs : List Int => (∀ x ∈ xs, Go.Am.ok64 x) ∧ xs.length ≤ maxLen) (e1 LI) := Rd.sl und23 (by kernel_rfl) rdI (fun _ => rfl) (by decide)
theorem rdLLI : Rd Try.prog 22 (fun xs : List (List Int) => (∀ x ∈ xs, (∀ y ∈ x, Go.Am.ok64 y) ∧ x.length ≤ maxLen) ∧ xs.length ≤ maxLen) (e1 LLI) := Rd.sl und22 (by kernel_rfl) rdLI (fun _ => rfl) (by decide)
theorem rdChn : Rd Try.prog 25 (fun x : List (List Int) × List Int × List Int => ((∀ l ∈ x.1, (∀ y ∈ l, Go.Am.ok64 y) ∧ l.length ≤ maxLen) ∧ x.1.length ≤ maxLen) ∧ ((∀ y ∈ x.2.1, Go.Am.ok64 y) ∧ x.2.1.length ≤ maxLen) ∧ ((∀ y ∈ x.2.2, Go.Am.ok64 y) ∧ x.2.2.length ≤ maxLen)) (fun x => [LLI x.1, LI x.2.1, LI x.2.2]) :=
  Rd.three und25 rfl rfl rfl (by kernel_rfl) (by kernel_rfl) (by kernel_rfl) (by kernel_rfl) rdLLI rdLI rdLI
theorem okN.of {nx : List (List Int)} {pay cost : List Int} (h : ((∀ l ∈ nx, (∀ y ∈ l, Go.Am.ok64 y) ∧ l.length ≤ maxLen) ∧ nx.length ≤ maxLen) ∧ ((∀ y ∈ pay, Go.Am.ok64 y) ∧ pay.length ≤ maxLen) ∧ ((∀ y ∈ cost, Go.Am.ok64 y) ∧ cost.length ≤ maxLen)) : okN nx pay cost :=
  ⟨h.1.2, fun l hl => (h.1.1 l hl).2, h.2.1.2, h.2.2.2⟩
theorem nxM_len (nx : List (List Int)) : (nxM nx).length ≤ 8 := by simp [nxM]; omega
theorem listM_len (l : List Int) : (listM l).length ≤ 8 := by rw [listM, List.length_take]; omega
theorem okN.copy (nx : List (List Int)) (pay cost : List Int) : okN (nxM nx) (listM pay) (listM cost) := by
  have ml : maxLen = 9223372036854775807 := by decide
  have h1 := nxM_len nx
  have h2 := listM_len pay
  have h3 := listM_len cost
  refine ⟨by omega, fun l hl => ?_, by omega, by omega⟩
  obtain ⟨i, _, rfl⟩ := List.mem_map.1 hl
  have := listM_len (nth nx i)
  omega
end Go.Proofs.Ytgamcclfdkpcgaa

set_option linter.unusedVariables false
set_option linter.unusedSimpArgs false
set_option maxRecDepth 10000
namespace Go.Proofs.Ytgamcclfdkpcgaa
open Go Go.Am

variable {h h' : Hp} {K : AV → Hp → Prop}

/-- The rows so far are true. -/
def goodR (n : Nat) (R : List (List Int)) (P C : List Int) (i : Nat) : Prop := (R.length = i ∧ P.length = i ∧ C.length = i) ∧ ∀ k, k < i → (nth R k).length = n ∧ (inB (nth P k) 0 1000 = true ∧ (inB (nth C k) 0 100 = true ∧ rowB (nth R k) = true))
theorem goodR.chB {n : Nat} {R : List (List Int)} {P C : List Int} (h : goodR n R P C n) (h1 : 1 ≤ n) (h6 : n ≤ 6) : chB R P C = true := by
  obtain ⟨⟨hr, hp, hc⟩, hk⟩ := h
  rw [Go.Proofs.Ytgamcclfdkpcgaa.chB, hr, hp, hc]
  have h1' : inB n 1 6 = true := by rw [inB, decide_eq_true (by omega), decide_eq_true (by omega)]; rfl
  rw [h1', decide_eq_true rfl]
  refine allR fun i hi => ?_
  obtain ⟨k1, k2, k3, k4⟩ := hk i hi
  rw [stB, hr, k1, k2, k3, k4, decide_eq_true rfl]; rfl
theorem goodR.snoc {n i : Nat} {R : List (List Int)} {P C : List Int} (h : goodR n R P C i) {r : List Int} {p c : Int} (hr : r.length = n) (hp : inB p 0 1000 = true) (hc : inB c 0 100 = true) (hb : rowB r = true) : goodR n (R ++ [r]) (P ++ [p]) (C ++ [c]) (i + 1) := by
  obtain ⟨⟨lr, lp, lc⟩, hk⟩ := h
  have nl : ∀ {α : Type} [Inhabited α] (l : List α) (x : α) (k : Nat), k < l.length → nth (l ++ [x]) k = nth l k := fun l x k hk => by rw [nth, List.getElem?_append_left hk]; rfl
  have ne : ∀ {α : Type} [Inhabited α] (l : List α) (x : α), nth (l ++ [x]) l.length = x := fun l x => by rw [nth, List.getElem?_append_right (Nat.le_refl _), Nat.sub_self]; rfl
  refine ⟨by simp [lr, lp, lc], fun k hki => ?_⟩
  by_cases e : k = i
  · subst e
    have e1 := ne R r; rw [lr] at e1
    have e2 := ne P p; rw [lp] at e2
    have e3 := ne C c; rw [lc] at e3
    rw [e1, e2, e3]
    exact ⟨hr, hp, hc, hb⟩
  · rw [nl R r k (by omega), nl P p k (by omega), nl C c k (by omega)]
    exact hk k (by omega)
theorem rowB_of {f : Nat → Int} {n : Nat} (h : ∀ k, k < n → 0 ≤ f k ∧ f k ≤ 4) (hs : sumN f n ≤ 4) : rowB ((List.range n).map f) = true := by
  have hl : ((List.range n).map f).length = n := by simp
  rw [rowB, hl]
  have h1 : (List.range n).all (fun j => inB (nth ((List.range n).map f) j) 0 4) = true := allR fun i hi => by
    rw [nth_map_range _ _ _ hi, inB, decide_eq_true (h i hi).1, decide_eq_true (h i hi).2]; rfl
  rw [h1, sumN_congr (g := f) fun j hj => nth_map_range _ _ _ hj, decide_eq_true hs]; rfl
/-- The row as it is filled: what is left, and zeros from j on. -/
def rowI (f : Nat → Int) (left : Int) (j : Nat) : Prop := 0 ≤ left ∧ left ≤ 4 ∧ sumN f j + left = 4 ∧ (∀ k, 0 ≤ f k ∧ f k ≤ 4) ∧ ∀ k, j ≤ k → f k = 0
theorem rowI.step {f : Nat → Int} {left x : Int} {j : Nat} (h : rowI f left j) (hx : 0 ≤ x ∧ x < 5) : rowI (setV f j (min left x)) (left - min left x) (j + 1) := by
  obtain ⟨h0, h4, hs, hf, hz⟩ := h
  have hsum : sumN (setV f j (min left x)) j = sumN f j := sumN_congr fun k hk => by rw [setV, if_neg (by omega)]
  refine ⟨by omega, by omega, ?_, fun k => ?_, fun k hk => ?_⟩
  · show sumN (setV f j (min left x)) j + setV f j (min left x) j + _ = 4
    rw [hsum, setV, if_pos rfl]; omega
  · unfold setV; split
    · omega
    · exact hf k
  · rw [setV, if_neg (by omega)]; exact hz k (by omega)
theorem rowI.sum {f : Nat → Int} {left : Int} {j n : Nat} (h : rowI f left j) (hj : j ≤ n) : sumN f n ≤ 4 := by
  obtain ⟨h0, h4, hs, hf, hz⟩ := h
  have : ∀ m, sumN f (j + m) = sumN f j := fun m => by
    induction m with
    | zero => rfl
    | succ m ih => show sumN f (j + m) + f (j + m) = _; rw [ih, hz _ (by omega)]; omega
  have := this (n - j)
  rw [Nat.add_sub_cancel' hj] at this
  omega

/-- A contract whose answer the walk itself finds. -/
def RetE (P : Program) (S : AV → Prop) (ow kn : Bool) (rs : List ResultVar) (ts : List TypeId) : Exit → St → Hp → Prop := fun x st h => ∃ r, S r ∧ RetK P ow kn rs ts r x st h
theorem Con_introE {P : Program} {cfg : Cfg} {S : AV → Prop} {f : FuncId} {fn : Func} {args : List AV} (hf : P.funcs[f]? = some fn) (hbody : fn.body.isSome = true) (hok : funcOk cfg fn (fn.body.getD .skip) = true) (hl : args.length ≤ fn.ntmps) (hext : cfg.ext f args = none)
    (hw : WP P cfg (fn.body.getD .skip) (initSt args) Hp.empty (RetE P S (cfg.own f) (cfg.keepNil f) fn.results.toList fn.resultTypes.toList)) : ∃ r, S r ∧ Con P cfg f args r := by
  obtain ⟨k, x, st', h', e, r, hs, hr⟩ := hw
  exact ⟨r, hs, Con_intro hf hbody hok hl hext ⟨k, x, st', h', e, hr⟩⟩
/-- The three lists that are being built. -/
def Tri (h : Hp) (n i : Nat) (v w u : AV) : Prop := ∃ R P C, Go.Am.Own (e1 LI) 1 h v R ∧ Go.Am.Own (e1 I) 1 h w P ∧ Go.Am.Own (e1 I) 1 h u C ∧ Dis v w ∧ Dis v u ∧ Dis w u ∧ goodR n R P C i

theorem app_step {α : Type} {f : α → List AV} {sz : Nat} {v : AV} {xs : List α} (o : Go.Am.Own f sz h v xs) (ys : List α) :
    (appH h v (ys.flatMap f)).nx = h.nx + 1 ∧ (∀ (i : Nat) (fz : Bool) (flat : List AV), h.bl i = some (.cells fz false flat) → i < h.nx → (appH h v (ys.flatMap f)).bl i = some (.cells fz false flat)) ∧
    Go.Am.Own f sz (appH h v (ys.flatMap f)) (appV h ys.length sz) ys ∧
    (∀ {β : Type} {g : β → List AV} {tz : Nat} {w : AV} {zs : List β}, Go.Am.Own g tz h w zs → Dis v w → Go.Am.Own g tz (appH h v (ys.flatMap f)) w zs ∧ Dis (appV h ys.length sz) w) := by
  refine ⟨appH_nx _ _ _, fun i fz flat hb hi => ?_, Own.app h v ys, fun ow d => ⟨ow.keep d _, ow.dis _ _⟩⟩
  rw [appH_bl _ _ _ _ hi fun id off n sz' e => ?_]
  · exact hb
  · rcases o with ⟨rfl, _⟩ | ⟨id', e', _, hc⟩
    · cases e
    · rw [e'] at e; cases e
      intro he; subst he
      rw [hb] at hc; cases hc

end Go.Proofs.Ytgamcclfdkpcgaa

set_option linter.unusedVariables false
set_option linter.unusedSimpArgs false
set_option maxRecDepth 10000
namespace Go.Proofs.Ytgamcclfdkpcgaa
open Go Go.Am

variable {h h' : Hp} {K : AV → Hp → Prop}

theorem rdP_absN {a b : Int} (hb : 0 < b) : -absI a ≤ (rdP a b).1 ∧ (rdP a b).1 ≤ absI a := by
  have hg := gcdI_pos (a := a) (b := b) (by omega)
  have := div_rng hg (gcdI_dvd a b).1
  rw [rdP_pos hb]
  exact this
theorem cmp_lt (p q : Int × Int) : decide (cmpP p q < 0) = decide (p.1 * q.2 < q.1 * p.2) := by
  unfold cmpP
  by_cases c1 : p.1 * q.2 < q.1 * p.2
  · rw [if_pos c1, decide_eq_true c1]; rfl
  · rw [if_neg c1, decide_eq_false c1]
    split <;> rfl
theorem mul_bd {a b A B : Int} (ha : -A ≤ a ∧ a ≤ A) (hb : -B ≤ b ∧ b ≤ B) : -(A * B) ≤ a * b ∧ a * b ≤ A * B := by
  refine absI_le.1 ?_
  rw [absI_mul]
  exact Int.mul_le_mul (absI_le.2 ha) (absI_le.2 hb) (absI_nonneg _) (by omega)

theorem f69_con {nx : List (List Int)} {pay cost : List Int} (C : okC nx pay cost) (x : Nat) (hs : sndP nx.length (wF nx) (ruleB x)) : Con Try.prog cfg 69 [chA nx pay cost, LP (valL nx pay cost x)] (.bool (supB nx.length (wF nx) (pF pay) (pF cost) x)) := by
  obtain ⟨n, hn⟩ : ∃ n, n = nx.length := ⟨_, rfl⟩
  have hn1 := C.n1
  have hn6 := C.n6
  have hlp := C.lp
  have hlc := C.lc
  have hal : ∀ g : Hp, allocB g (some (chA nx pay cost)) = some (.ptr g.nx 0, g.alloc (.cells false false [LLI nx, LI pay, LI cost])) := fun g => allocB_agg _ rfl
  obtain ⟨V, hV⟩ : ∃ V, V = VN nx.length (wF nx) (pF pay) (pF cost) (ruleB x) := ⟨_, rfl⟩
  obtain ⟨D, hD⟩ : ∃ D, D = DN nx.length (wF nx) (pF pay) (pF cost) (ruleB x) := ⟨_, rfl⟩
  have hDp : 0 < D := by rw [hD]; exact (vals_of C.chn hs (by omega)).pos
  have hDb : D ≤ 262144 := by have := DN_b C.chn hs; have := bE6 hn6; rw [hD]; exact Int.le_trans (DN_b C.chn hs) (bE6 hn6)
  have hVb : ∀ i, i < n → -3188646000 ≤ V i ∧ V i ≤ 3188646000 := fun i hi => by
    have h1 : -bC nx.length ≤ V i ∧ V i ≤ bC nx.length := by rw [hV]; exact VN_b C.chn hs (by omega)
    have := bC6 hn6
    omega
  have hvl : (valL nx pay cost x).length = n := by simp [valL, hn]
  have hvn : ∀ i, i < n → nth (valL nx pay cost x) i = rdP (V i) D := fun i hi => by
    rw [valL, nth_map_range _ _ _ (by omega), hV, hD]
  have hsup : supB nx.length (wF nx) (pF pay) (pF cost) x = true ↔ ∀ i, i < n → nth pay i * D ≤ V i ∧ sumN (fun j => nth (nth nx i) j * V j) n - 4 * nth cost i * D ≤ 4 * V i := by
    rw [supB_iff, hV, hD, hn]; rfl
  generalize supB nx.length (wF nx) (pF pay) (pF cost) x = b at *
  have hno : ∀ i, i < n → ¬ (nth pay i * D ≤ V i ∧ sumN (fun j => nth (nth nx i) j * V j) n - 4 * nth cost i * D ≤ 4 * V i) → b = false := fun i hi h => by
    cases b with
    | false => rfl
    | true => exact (h (hsup.1 rfl i hi)).elim
  refine Con_intro Try.func69 rfl ok69 (Nat.le_of_ble_eq_true rfl) rfl ?_
  simp only [Try.f69, Option.getD_some, initSt2]
  simp (disch := first | (simp only [go_sem, gb0, eq_self]; done) | omega | (simp only [gl1, gl2]; omega)) only [go_sem, ↓reduceIte, Nat.reduceEqDiff, Nat.reduceAdd, Nat.reduceMul, Nat.reduceSub, Int.reduceToNat, Nat.reduceBEq, hal]
  refine WP_for 15 n (fun i st h => st 1 = LP (valL nx pay cost x) ∧ st 2 = .ptr 0 0 ∧ st 13 = LLI nx ∧ st 14 = I n ∧ h.nx = 1 ∧ h.bl 0 = some (.cells false false [LLI nx, LI pay, LI cost]) ∧ ∀ k, k < i → nth pay k * D ≤ V k ∧ sumN (fun j => nth (nth nx k) j * V j) n - 4 * nth cost k * D ≤ 4 * V k) (by simp (disch := first | (simp only [go_sem, gb0, eq_self]; done) | omega | (simp only [gl1, gl2]; omega)) only [go_sem, ↓reduceIte, Nat.reduceEqDiff, Nat.reduceAdd, Nat.reduceMul, Nat.reduceSub, Int.reduceToNat, Nat.reduceBEq])
    ⟨by simp (disch := first | (simp only [go_sem, gb0, eq_self]; done) | omega | (simp only [gl1, gl2]; omega)) only [go_sem, ↓reduceIte, Nat.reduceEqDiff, Nat.reduceAdd, Nat.reduceMul, Nat.reduceSub, Int.reduceToNat, Nat.reduceBEq], by simp (disch := first | (simp only [go_sem, gb0, eq_self]; done) | omega | (simp only [gl1, gl2]; omega)) only [go_sem, ↓reduceIte, Nat.reduceEqDiff, Nat.reduceAdd, Nat.reduceMul, Nat.reduceSub, Int.reduceToNat, Nat.reduceBEq], by simp (disch := first | (simp only [go_sem, gb0, eq_self]; done) | omega | (simp only [gl1, gl2]; omega)) only [go_sem, ↓reduceIte, Nat.reduceEqDiff, Nat.reduceAdd, Nat.reduceMul, Nat.reduceSub, Int.reduceToNat, Nat.reduceBEq], by simp (disch := first | (simp only [go_sem, gb0, eq_self]; done) | omega | (simp only [gl1, gl2]; omega)) only [go_sem, ↓reduceIte, Nat.reduceEqDiff, Nat.reduceAdd, Nat.reduceMul, Nat.reduceSub, Int.reduceToNat, Nat.reduceBEq, hn], by simp (disch := first | (simp only [go_sem, gb0, eq_self]; done) | omega | (simp only [gl1, gl2]; omega)) only [go_sem, ↓reduceIte, Nat.reduceEqDiff, Nat.reduceAdd, Nat.reduceMul, Nat.reduceSub, Int.reduceToNat, Nat.reduceBEq], by simp (disch := first | (simp only [go_sem, gb0, eq_self]; done) | omega | (simp only [gl1, gl2]; omega)) only [go_sem, ↓reduceIte, Nat.reduceEqDiff, Nat.reduceAdd, Nat.reduceMul, Nat.reduceSub, Int.reduceToNat, Nat.reduceBEq], fun k hk => by omega⟩ ?_
  rintro i st h hi s15 ⟨s1, s2, s13, s14, hnx, b0, hall⟩
  by_cases hlt : i < n
  case neg =>
    have hb : b = true := hsup.2 fun k hk => hall k (by omega)
    simp (disch := first | (simp only [go_sem, gb0, eq_self]; done) | omega | (simp only [gl1, gl2]; omega)) only [go_sem, ↓reduceIte, Nat.reduceEqDiff, Nat.reduceAdd, Nat.reduceMul, Nat.reduceSub, Int.reduceToNat, Nat.reduceBEq, s1, s2, s13, s14, s15, hlt, hb]
  have hi1 : i < nx.length := by omega
  have hi1' : (i : Int) < nx.length := by omega
  have hiv : i < (valL nx pay cost x).length := by omega
  have hiv' : (i : Int) < (valL nx pay cost x).length := by omega
  have hip : i < pay.length := by omega
  have hip' : (i : Int) < pay.length := by omega
  have hic : i < cost.length := by omega
  have hic' : (i : Int) < cost.length := by omega
  have hpb := C.pb hi1
  have hcb := C.cb hi1
  have hrow := C.row i hi1
  have hVi := hVb i hlt
  have vd := rdP_den (a := V i) hDp
  have vn := rdP_absN (a := V i) hDp
  have hvi := hvn i hlt
  have z0 : 0 < h.nx := by omega
  have hcmp : (rdP (V i) D).1 * 1 < nth pay i * (rdP (V i) D).2 ↔ V i < nth pay i * D := by
    have := lessP_rd (a := V i) (c := nth pay i) hDp (show (0 : Int) < 1 by decide)
    rw [rdP_one] at this
    unfold lessQ at this
    simp only [Int.mul_one] at this ⊢
    exact this
  have mb1 := mul_bd (a := nth pay i) (b := (rdP (V i) D).2) (A := 1000) (B := 262144) (by omega) (by omega)
  have habs : absI (V i) ≤ 3188646000 := absI_le.2 hVi
  have k52 := fun h h' K => ConW_num (h := h) (h' := h') (K := K) (f52_con (rdP (V i) D) (nth pay i, 1) (by simp only [big]; omega) (by simp only [big]; omega)) rfl
  by_cases hp : V i < nth pay i * D
  · have hb := hno i hlt (fun h => by omega)
    have hc : decide (cmpP (rdP (V i) D) (nth pay i, 1) < 0) = true := by rw [cmp_lt]; exact decide_eq_true (hcmp.2 hp)
    simp (disch := first | (simp only [go_sem, gb0, eq_self]; done) | omega | (simp only [gl1, gl2]; omega)) only [go_sem, ↓reduceIte, Nat.reduceEqDiff, Nat.reduceAdd, Nat.reduceMul, Nat.reduceSub, Int.reduceToNat, Nat.reduceBEq, s1, s2, s13, s14, s15, hlt, hi1, hi1', hiv, hiv', hip, hip', hvi, b0, z0, k52, hc, hb, List.drop_succ_cons]
  have hc : decide (cmpP (rdP (V i) D) (nth pay i, 1) < 0) = false := by rw [cmp_lt]; exact decide_eq_false fun h => hp (hcmp.1 h)
  simp (disch := first | (simp only [go_sem, gb0, eq_self]; done) | omega | (simp only [gl1, gl2]; omega)) only [go_sem, ↓reduceIte, Nat.reduceEqDiff, Nat.reduceAdd, Nat.reduceMul, Nat.reduceSub, Int.reduceToNat, Nat.reduceBEq, s1, s2, s13, s14, s15, hlt, hi1, hi1', hiv, hiv', hip, hip', hic, hic', hvi, b0, z0, k52, hc, List.drop_succ_cons]
  -- going on once
  obtain ⟨S, hS⟩ : ∃ S : Nat → Int, S = fun m => sumN (fun j => nth (nth nx i) j * V j) m - 4 * nth cost i * D := ⟨_, rfl⟩
  have hSb : ∀ m, m ≤ n → -80000000000 ≤ S m ∧ S m ≤ 80000000000 := fun m hm => by
    have h1 := sumN_bounds (f := fun j => nth (nth nx i) j * V j) (lo := -12754584000) (hi := 12754584000) (n := m) fun j hj => by
      have h2 := C.wb hi1 (show j < nx.length by omega)
      have h3 := hVb j (by omega)
      have := mul_bd (a := nth (nth nx i) j) (b := V j) (A := 4) (B := 3188646000) (by omega) (by omega)
      omega
    have h2 := mul_bd (a := 4 * nth cost i) (b := D) (A := 400) (B := 262144) (by omega) (by omega)
    have h3 : (m : Int) ≤ 6 := by omega
    rw [hS]
    show -80000000000 ≤ sumN (fun j => nth (nth nx i) j * V j) m - 4 * nth cost i * D ∧ sumN (fun j => nth (nth nx i) j * V j) m - 4 * nth cost i * D ≤ 80000000000
    omega
  have hS0 : rdP (S 0) D = (-4 * nth cost i, 1) := by
    have : S 0 = (-4 * nth cost i) * D := by rw [hS]; simp only [sumN]; grind
    rw [this]; exact rdP_whole _ hDp
  have hSs : ∀ m, S (m + 1) = S m + nth (nth nx i) m * V m := fun m => by rw [hS]; simp only [sumN]; omega
  have hSn : S n = sumN (fun j => nth (nth nx i) j * V j) n - 4 * nth cost i * D := by rw [hS]
  refine WP_cut (fun st h => st 1 = LP (valL nx pay cost x) ∧ st 2 = .ptr 0 0 ∧ st 5 = I i ∧ st 13 = LLI nx ∧ st 14 = I n ∧ st 15 = I i ∧ h.nx = 1 ∧ h.bl 0 = some (.cells false false [LLI nx, LI pay, LI cost]) ∧ st 7 = I (rdP (S n) D).1 ∧ st 8 = I (rdP (S n) D).2) ?_ ?_
  · refine WP_for 40 n (fun m st h => st 1 = LP (valL nx pay cost x) ∧ st 2 = .ptr 0 0 ∧ st 5 = I i ∧ st 13 = LLI nx ∧ st 14 = I n ∧ st 15 = I i ∧ st 38 = LI (nth nx i) ∧ st 39 = I n ∧ h.nx = 1 ∧ h.bl 0 = some (.cells false false [LLI nx, LI pay, LI cost]) ∧ st 7 = I (rdP (S m) D).1 ∧ st 8 = I (rdP (S m) D).2) (by simp (disch := first | (simp only [go_sem, gb0, eq_self]; done) | omega | (simp only [gl1, gl2]; omega)) only [go_sem, ↓reduceIte, Nat.reduceEqDiff, Nat.reduceAdd, Nat.reduceMul, Nat.reduceSub, Int.reduceToNat, Nat.reduceBEq])
      ⟨by simp (disch := first | (simp only [go_sem, gb0, eq_self]; done) | omega | (simp only [gl1, gl2]; omega)) only [go_sem, ↓reduceIte, Nat.reduceEqDiff, Nat.reduceAdd, Nat.reduceMul, Nat.reduceSub, Int.reduceToNat, Nat.reduceBEq, s1], by simp (disch := first | (simp only [go_sem, gb0, eq_self]; done) | omega | (simp only [gl1, gl2]; omega)) only [go_sem, ↓reduceIte, Nat.reduceEqDiff, Nat.reduceAdd, Nat.reduceMul, Nat.reduceSub, Int.reduceToNat, Nat.reduceBEq, s2], by simp (disch := first | (simp only [go_sem, gb0, eq_self]; done) | omega | (simp only [gl1, gl2]; omega)) only [go_sem, ↓reduceIte, Nat.reduceEqDiff, Nat.reduceAdd, Nat.reduceMul, Nat.reduceSub, Int.reduceToNat, Nat.reduceBEq], by simp (disch := first | (simp only [go_sem, gb0, eq_self]; done) | omega | (simp only [gl1, gl2]; omega)) only [go_sem, ↓reduceIte, Nat.reduceEqDiff, Nat.reduceAdd, Nat.reduceMul, Nat.reduceSub, Int.reduceToNat, Nat.reduceBEq, s13], by simp (disch := first | (simp only [go_sem, gb0, eq_self]; done) | omega | (simp only [gl1, gl2]; omega)) only [go_sem, ↓reduceIte, Nat.reduceEqDiff, Nat.reduceAdd, Nat.reduceMul, Nat.reduceSub, Int.reduceToNat, Nat.reduceBEq, s14], by simp (disch := first | (simp only [go_sem, gb0, eq_self]; done) | omega | (simp only [gl1, gl2]; omega)) only [go_sem, ↓reduceIte, Nat.reduceEqDiff, Nat.reduceAdd, Nat.reduceMul, Nat.reduceSub, Int.reduceToNat, Nat.reduceBEq, s15], by simp (disch := first | (simp only [go_sem, gb0, eq_self]; done) | omega | (simp only [gl1, gl2]; omega)) only [go_sem, ↓reduceIte, Nat.reduceEqDiff, Nat.reduceAdd, Nat.reduceMul, Nat.reduceSub, Int.reduceToNat, Nat.reduceBEq], by (simp (disch := first | (simp only [go_sem, gb0, eq_self]; done) | omega | (simp only [gl1, gl2]; omega)) only [go_sem, ↓reduceIte, Nat.reduceEqDiff, Nat.reduceAdd, Nat.reduceMul, Nat.reduceSub, Int.reduceToNat, Nat.reduceBEq]; rw [hrow, hn]), hnx, b0, by (rw [hS0]; simp (disch := first | (simp only [go_sem, gb0, eq_self]; done) | omega | (simp only [gl1, gl2]; omega)) only [go_sem, ↓reduceIte, Nat.reduceEqDiff, Nat.reduceAdd, Nat.reduceMul, Nat.reduceSub, Int.reduceToNat, Nat.reduceBEq]), by (rw [hS0]; simp (disch := first | (simp only [go_sem, gb0, eq_self]; done) | omega | (simp only [gl1, gl2]; omega)) only [go_sem, ↓reduceIte, Nat.reduceEqDiff, Nat.reduceAdd, Nat.reduceMul, Nat.reduceSub, Int.reduceToNat, Nat.reduceBEq])⟩ ?_
    rintro m st h hm s40 ⟨s1, s2, s5, s13, s14, s15, s38, s39, hnx, b0, s7, s8⟩
    by_cases hmn : m < n
    case neg =>
      have hme : m = n := by omega
      subst hme
      simp (disch := first | (simp only [go_sem, gb0, eq_self]; done) | omega | (simp only [gl1, gl2]; omega)) only [go_sem, ↓reduceIte, Nat.reduceEqDiff, Nat.reduceAdd, Nat.reduceMul, Nat.reduceSub, Int.reduceToNat, Nat.reduceBEq, s1, s2, s5, s13, s14, s15, s7, s8, s39, s40, hmn]
      exact ⟨hnx, b0⟩
    have hmr : m < (nth nx i).length := by omega
    have hmr' : (m : Int) < (nth nx i).length := by omega
    have hmv : m < (valL nx pay cost x).length := by omega
    have hmv' : (m : Int) < (valL nx pay cost x).length := by omega
    have hvm := hvn m hmn
    have hwb := C.wb hi1 (show m < nx.length by omega)
    have hVm := hVb m hmn
    have ud := rdP_den (a := V m) hDp
    have un := rdP_absN (a := V m) hDp
    have hau : absI (V m) ≤ 3188646000 := absI_le.2 hVm
    have sd := rdP_den (a := S m) hDp
    have sn := rdP_absN (a := S m) hDp
    have has : absI (S m) ≤ 80000000000 := absI_le.2 (hSb m (by omega))
    have v1 := rdP_val (a := V m) hDp
    have v2 := rdP_val (a := S m) hDp
    have hst := hSs m
    have key : rdP ((rdP (S m) D).1 * (rdP (V m) D).2 + nth (nth nx i) m * (rdP (V m) D).1 * (rdP (S m) D).2) ((rdP (S m) D).2 * (rdP (V m) D).2) = rdP (S (m + 1)) D := by
      refine rdP_cross (Int.mul_pos sd.1 ud.1) hDp ?_
      rw [hst]
      generalize rdP (S m) D = u at *
      generalize rdP (V m) D = v at *
      grind
    generalize hr' : rdP (S (m + 1)) D = r at *
    generalize rdP (S m) D = u at *
    generalize rdP (V m) D = v at *
    have w1 := mul_bd (a := u.1) (b := v.2) (A := 80000000000) (B := 262144) (by omega) (by omega)
    have w2 := mul_bd (a := nth (nth nx i) m) (b := v.1) (A := 4) (B := 3188646000) (by omega) (by omega)
    have w3 := mul_bd (a := nth (nth nx i) m * v.1) (b := u.2) (A := 12754584000) (B := 262144) (by omega) (by omega)
    have w4 : 0 < u.2 * v.2 := Int.mul_pos sd.1 ud.1
    have w5 := mul_bd (a := u.2) (b := v.2) (A := 262144) (B := 262144) (by omega) (by omega)
    obtain ⟨A, hA⟩ : ∃ A, A = u.1 * v.2 + nth (nth nx i) m * v.1 * u.2 := ⟨_, rfl⟩
    obtain ⟨B, hB⟩ : ∃ B, B = u.2 * v.2 := ⟨_, rfl⟩
    rw [← hA, ← hB] at key
    have hAb : -30000000000000000 ≤ A ∧ A ≤ 30000000000000000 := by rw [hA]; omega
    have hBb : 0 < B ∧ B ≤ 68719476736 := by rw [hB]; omega
    have kg := fun h h' K => k79 (h := h) (h' := h') (K := K) A B (by simp only [big]; omega) (by simp only [big]; omega)
    have hg := gcdI_pos (a := A) (b := B) (by omega)
    have t1 := tdiv_gcd_l A B
    have t2 := tdiv_gcd_r A B
    have r1 := div_rng hg (gcdI_dvd A B).1
    have r2 := div_rng hg (gcdI_dvd A B).2
    have kr1 : A / gcdI A B = r.1 := by rw [← key, rdP_pos hBb.1]
    have kr2 : B / gcdI A B = r.2 := by rw [← key, rdP_pos hBb.1]
    have g0 : ¬ gcdI A B = 0 := by omega
    rw [kr1] at t1 r1
    rw [kr2] at t2 r2
    simp (disch := first | (simp only [go_sem, gb0, eq_self]; done) | omega | (simp only [gl1, gl2]; omega)) only [go_sem, ↓reduceIte, Nat.reduceEqDiff, Nat.reduceAdd, Nat.reduceMul, Nat.reduceSub, Int.reduceToNat, Nat.reduceBEq, s1, s2, s5, s13, s14, s15, s7, s8, s38, s39, s40, hmn, hmr, hmr', hmv, hmv', hvm, ← hA, ← hB, kg, t1, t2, g0, List.drop_succ_cons]
    rw [ForK_normal]
    exact ⟨hmn, by simp (disch := first | (simp only [go_sem, gb0, eq_self]; done) | omega | (simp only [gl1, gl2]; omega)) only [go_sem, ↓reduceIte, Nat.reduceEqDiff, Nat.reduceAdd, Nat.reduceMul, Nat.reduceSub, Int.reduceToNat, Nat.reduceBEq, s40], by simp (disch := first | (simp only [go_sem, gb0, eq_self]; done) | omega | (simp only [gl1, gl2]; omega)) only [go_sem, ↓reduceIte, Nat.reduceEqDiff, Nat.reduceAdd, Nat.reduceMul, Nat.reduceSub, Int.reduceToNat, Nat.reduceBEq, s1], by simp (disch := first | (simp only [go_sem, gb0, eq_self]; done) | omega | (simp only [gl1, gl2]; omega)) only [go_sem, ↓reduceIte, Nat.reduceEqDiff, Nat.reduceAdd, Nat.reduceMul, Nat.reduceSub, Int.reduceToNat, Nat.reduceBEq, s2], by simp (disch := first | (simp only [go_sem, gb0, eq_self]; done) | omega | (simp only [gl1, gl2]; omega)) only [go_sem, ↓reduceIte, Nat.reduceEqDiff, Nat.reduceAdd, Nat.reduceMul, Nat.reduceSub, Int.reduceToNat, Nat.reduceBEq, s5], by simp (disch := first | (simp only [go_sem, gb0, eq_self]; done) | omega | (simp only [gl1, gl2]; omega)) only [go_sem, ↓reduceIte, Nat.reduceEqDiff, Nat.reduceAdd, Nat.reduceMul, Nat.reduceSub, Int.reduceToNat, Nat.reduceBEq, s13], by simp (disch := first | (simp only [go_sem, gb0, eq_self]; done) | omega | (simp only [gl1, gl2]; omega)) only [go_sem, ↓reduceIte, Nat.reduceEqDiff, Nat.reduceAdd, Nat.reduceMul, Nat.reduceSub, Int.reduceToNat, Nat.reduceBEq, s14], by simp (disch := first | (simp only [go_sem, gb0, eq_self]; done) | omega | (simp only [gl1, gl2]; omega)) only [go_sem, ↓reduceIte, Nat.reduceEqDiff, Nat.reduceAdd, Nat.reduceMul, Nat.reduceSub, Int.reduceToNat, Nat.reduceBEq, s15], by simp (disch := first | (simp only [go_sem, gb0, eq_self]; done) | omega | (simp only [gl1, gl2]; omega)) only [go_sem, ↓reduceIte, Nat.reduceEqDiff, Nat.reduceAdd, Nat.reduceMul, Nat.reduceSub, Int.reduceToNat, Nat.reduceBEq, s38], by simp (disch := first | (simp only [go_sem, gb0, eq_self]; done) | omega | (simp only [gl1, gl2]; omega)) only [go_sem, ↓reduceIte, Nat.reduceEqDiff, Nat.reduceAdd, Nat.reduceMul, Nat.reduceSub, Int.reduceToNat, Nat.reduceBEq, s39], hnx, b0, by (rw [hr']; simp (disch := first | (simp only [go_sem, gb0, eq_self]; done) | omega | (simp only [gl1, gl2]; omega)) only [go_sem, ↓reduceIte, Nat.reduceEqDiff, Nat.reduceAdd, Nat.reduceMul, Nat.reduceSub, Int.reduceToNat, Nat.reduceBEq]), by (rw [hr']; simp (disch := first | (simp only [go_sem, gb0, eq_self]; done) | omega | (simp only [gl1, gl2]; omega)) only [go_sem, ↓reduceIte, Nat.reduceEqDiff, Nat.reduceAdd, Nat.reduceMul, Nat.reduceSub, Int.reduceToNat, Nat.reduceBEq])⟩
  · rintro st h ⟨s1, s2, s5, s13, s14, s15, hnx, b0, s7, s8⟩
    have sd := rdP_den (a := S n) hDp
    have sn := rdP_absN (a := S n) hDp
    have has : absI (S n) ≤ 80000000000 := absI_le.2 (hSb n (by omega))
    have v2 := rdP_val (a := S n) hDp
    have key : rdP (rdP (S n) D).1 ((rdP (S n) D).2 * 4) = rdP (S n) (4 * D) := by
      refine rdP_cross (by omega) (by omega) ?_
      generalize rdP (S n) D = u at *
      grind
    have hcmp2 : (rdP (V i) D).1 * (rdP (S n) (4 * D)).2 < (rdP (S n) (4 * D)).1 * (rdP (V i) D).2 ↔ 4 * V i < S n := by
      have h1 := lessP_rd (a := V i) (c := S n) hDp (show 0 < 4 * D by omega)
      unfold lessQ at h1
      rw [h1]
      constructor
      · intro h2
        have e : V i * (4 * D) = 4 * V i * D := by grind
        rw [e] at h2
        exact Int.lt_of_mul_lt_mul_right h2 (Int.le_of_lt hDp)
      · intro h2
        have e : V i * (4 * D) = 4 * V i * D := by grind
        rw [e]
        exact Int.mul_lt_mul_of_pos_right h2 hDp
    have qd := rdP_den (a := S n) (show 0 < 4 * D by omega)
    have qn := rdP_absN (a := S n) (show 0 < 4 * D by omega)
    have kr := fun h h' K => k70 (h := h) (h' := h') (K := K) (rdP (S n) D).1 ((rdP (S n) D).2 * 4) (by simp only [big]; omega) (by simp only [big]; omega) (by omega)
    rw [key] at kr
    have z0 : 0 < h.nx := by omega
    have w1 := mul_bd (a := (rdP (V i) D).1) (b := (rdP (S n) (4 * D)).2) (A := 3188646000) (B := 1048576) (by omega) (by omega)
    have w2 := mul_bd (a := (rdP (S n) (4 * D)).1) (b := (rdP (V i) D).2) (A := 80000000000) (B := 262144) (by omega) (by omega)
    have k52b := fun h h' K => ConW_num (h := h) (h' := h') (K := K) (f52_con (rdP (V i) D) (rdP (S n) (4 * D)) (by simp only [big]; omega) (by simp only [big]; omega)) rfl
    by_cases hlow : 4 * V i < S n
    · have hb := hno i hlt (fun h => by rw [← hSn] at h; omega)
      have hc2 : decide (cmpP (rdP (V i) D) (rdP (S n) (4 * D)) < 0) = true := by rw [cmp_lt]; exact decide_eq_true (hcmp2.2 hlow)
      simp (disch := first | (simp only [go_sem, gb0, eq_self]; done) | omega | (simp only [gl1, gl2]; omega)) only [go_sem, ↓reduceIte, Nat.reduceEqDiff, Nat.reduceAdd, Nat.reduceMul, Nat.reduceSub, Int.reduceToNat, Nat.reduceBEq, s1, s2, s5, s13, s14, s15, s7, s8, hiv, hiv', hvi, kr, k52b, hc2, hb]
    · have hc2 : decide (cmpP (rdP (V i) D) (rdP (S n) (4 * D)) < 0) = false := by rw [cmp_lt]; exact decide_eq_false fun h => hlow (hcmp2.1 h)
      simp (disch := first | (simp only [go_sem, gb0, eq_self]; done) | omega | (simp only [gl1, gl2]; omega)) only [go_sem, ↓reduceIte, Nat.reduceEqDiff, Nat.reduceAdd, Nat.reduceMul, Nat.reduceSub, Int.reduceToNat, Nat.reduceBEq, s1, s2, s5, s13, s14, s15, s7, s8, hiv, hiv', hvi, kr, k52b, hc2]
      rw [ForK_normal]
      refine ⟨hlt, by simp (disch := first | (simp only [go_sem, gb0, eq_self]; done) | omega | (simp only [gl1, gl2]; omega)) only [go_sem, ↓reduceIte, Nat.reduceEqDiff, Nat.reduceAdd, Nat.reduceMul, Nat.reduceSub, Int.reduceToNat, Nat.reduceBEq, s15], by simp (disch := first | (simp only [go_sem, gb0, eq_self]; done) | omega | (simp only [gl1, gl2]; omega)) only [go_sem, ↓reduceIte, Nat.reduceEqDiff, Nat.reduceAdd, Nat.reduceMul, Nat.reduceSub, Int.reduceToNat, Nat.reduceBEq, s1], by simp (disch := first | (simp only [go_sem, gb0, eq_self]; done) | omega | (simp only [gl1, gl2]; omega)) only [go_sem, ↓reduceIte, Nat.reduceEqDiff, Nat.reduceAdd, Nat.reduceMul, Nat.reduceSub, Int.reduceToNat, Nat.reduceBEq, s2], by simp (disch := first | (simp only [go_sem, gb0, eq_self]; done) | omega | (simp only [gl1, gl2]; omega)) only [go_sem, ↓reduceIte, Nat.reduceEqDiff, Nat.reduceAdd, Nat.reduceMul, Nat.reduceSub, Int.reduceToNat, Nat.reduceBEq, s13], by simp (disch := first | (simp only [go_sem, gb0, eq_self]; done) | omega | (simp only [gl1, gl2]; omega)) only [go_sem, ↓reduceIte, Nat.reduceEqDiff, Nat.reduceAdd, Nat.reduceMul, Nat.reduceSub, Int.reduceToNat, Nat.reduceBEq, s14], hnx, b0, fun k hk => ?_⟩
      by_cases hki : k = i
      · subst hki; rw [← hSn]; omega
      · exact hall k (by omega)
end Go.Proofs.Ytgamcclfdkpcgaa

set_option linter.unusedVariables false
set_option linter.unusedSimpArgs false
set_option maxRecDepth 10000
namespace Go.Proofs.Ytgamcclfdkpcgaa
open Go Go.Am

theorem okC.ch {nx : List (List Int)} {pay cost : List Int} (C : okC nx pay cost) : Chn nx.length (wF nx) (pF pay) (pF cost) := C.chn
/-- The best values, as the program finds them. -/
noncomputable def bestL (nx : List (List Int)) (pay cost : List Int) : List (Int × Int) :=
  firstOf (sndB nx.length (wF nx)) (supB nx.length (wF nx) (pF pay) (pF cost)) (valL nx pay cost) (List.range (2 ^ nx.length))
theorem best_is {nx : List (List Int)} {pay cost : List Int} (C : okC nx pay cost) : ∃ x, x < 2 ^ nx.length ∧ sndP nx.length (wF nx) (ruleB x) ∧ sup nx.length (wF nx) (pF pay) (pF cost) (VN nx.length (wF nx) (pF pay) (pF cost) (ruleB x)) (DN nx.length (wF nx) (pF pay) (pF cost) (ruleB x)) ∧ bestL nx pay cost = valL nx pay cost x := by
  obtain ⟨y, hy, h1, h2⟩ := best_ex C.ch (by have := C.n1; omega)
  unfold bestL firstOf
  cases hf : (List.range (2 ^ nx.length)).find? fun x => sndB nx.length (wF nx) x && supB nx.length (wF nx) (pF pay) (pF cost) x with
  | none =>
    have := List.find?_eq_none.1 hf y (List.mem_range.2 hy)
    rw [sndB_iff.2 h1, supB_iff.2 h2] at this
    exact (this rfl).elim
  | some x =>
    have h3 := List.find?_some hf
    have h4 := List.mem_range.1 (List.mem_of_find?_eq_some hf)
    simp only [Bool.and_eq_true] at h3
    exact ⟨x, h4, sndB_iff.1 h3.1, supB_iff.1 h3.2, rfl⟩
theorem valL_len (nx : List (List Int)) (pay cost : List Int) (x : Nat) : (valL nx pay cost x).length = nx.length := by simp [valL]
theorem valL_nth {nx : List (List Int)} (pay cost : List Int) (x : Nat) {i : Nat} (hi : i < nx.length) : nth (valL nx pay cost x) i = rdP (VN nx.length (wF nx) (pF pay) (pF cost) (ruleB x) i) (DN nx.length (wF nx) (pF pay) (pF cost) (ruleB x)) := by rw [valL, nth_map_range _ _ _ hi]
theorem bestL_len {nx : List (List Int)} {pay cost : List Int} (C : okC nx pay cost) : (bestL nx pay cost).length = nx.length := by
  obtain ⟨x, _, _, _, e⟩ := best_is C
  rw [e, valL_len]
structure BInv (nx : List (List Int)) (pay cost : List Int) (m : Nat) (b : List (Int × Int)) : Prop where
  no : b = [] → ∀ x, x < m → sndB nx.length (wF nx) x = false
  len : b = [] ∨ b.length = nx.length
  ex : ∀ i, i < b.length → ∃ x, x < m ∧ sndP nx.length (wF nx) (ruleB x) ∧ nth b i = nth (valL nx pay cost x) i
  ge : ∀ i, i < b.length → ∀ x, x < m → sndP nx.length (wF nx) (ruleB x) → (nth (valL nx pay cost x) i).1 * (nth b i).2 ≤ (nth b i).1 * (nth (valL nx pay cost x) i).2
end Go.Proofs.Ytgamcclfdkpcgaa

set_option linter.unusedVariables false
set_option linter.unusedSimpArgs false
set_option maxRecDepth 10000
namespace Go.Proofs.Ytgamcclfdkpcgaa
open Go Go.Am

variable {h h' : Hp} {K : AV → Hp → Prop}

end Go.Proofs.Ytgamcclfdkpcgaa

set_option linter.unusedVariables false
set_option linter.unusedSimpArgs false
set_option maxRecDepth 10000
namespace Go.Proofs.Ytgamcclfdkpcgaa
open Go Go.Am

variable {h h' : Hp} {K : AV → Hp → Prop}

/-- The numbers below m with a property. -/
def filtL (P : Nat → Bool) (m : Nat) : List Int := ((List.range m).filter P).map fun k : Nat => (k : Int)
theorem filtL_succ (P : Nat → Bool) (m : Nat) : filtL P (m + 1) = if P m then filtL P m ++ [(m : Int)] else filtL P m := by
  unfold filtL
  rw [List.range_succ, List.filter_append, List.map_append]
  cases hp : P m <;> simp [List.filter_cons, hp]
theorem filtL_len (P : Nat → Bool) (m : Nat) : (filtL P m).length ≤ m := by
  unfold filtL
  rw [List.length_map]
  have := List.length_filter_le P (List.range m)
  rwa [List.length_range] at this
theorem filtL_has (P : Nat → Bool) {n i : Nat} (hi : i < n) : hasB (filtL P n) i = P i := by
  unfold hasB filtL
  rw [List.any_map]
  cases hp : P i with
  | true => exact List.any_eq_true.2 ⟨i, List.mem_filter.2 ⟨List.mem_range.2 hi, hp⟩, by simp⟩
  | false =>
    refine List.any_eq_false.2 fun k hk => ?_
    have h1 := (List.mem_filter.1 hk).2
    simp only [Function.comp, decide_eq_true_eq]
    intro e
    have : k = i := by omega
    rw [this, hp] at h1; cases h1
def stopsL (n : Nat) (pay : List Int) (b : List (Int × Int)) (m : Nat) : List Int := filtL (fun i => decide ((nth b i).1 = nth pay i) && decide ((nth b i).2 = 1)) m

end Go.Proofs.Ytgamcclfdkpcgaa

set_option linter.unusedVariables false
set_option linter.unusedSimpArgs false
set_option maxRecDepth 10000
namespace Go.Proofs.Ytgamcclfdkpcgaa
open Go Go.Am

variable {h h' : Hp} {K : AV → Hp → Prop}

theorem ways_of {nx : List (List Int)} {pay cost : List Int} (C : okC nx pay cost) : Ways (chA nx pay cost) nx.length (sndB nx.length (wF nx)) (supB nx.length (wF nx) (pF pay) (pF cost)) (eqR nx pay cost) (valL nx pay cost) :=
  ⟨f54_con C, fun x _ => f56_con C x, fun x _ => ⟨_, rfl, matA_pure _⟩, fun x h => f55_con C x (sndB_iff.1 h), fun x h => f69_con C x (sndB_iff.1 h)⟩
theorem f49_pure {nx : List (List Int)} {pay cost : List Int} (C : okC nx pay cost) : PureOk Try.prog 49 [chA nx pay cost] (LP (bestL nx pay cost)) := best_pure nx pay cost C.n6 (ways_of C)
def BestRel (args : List AV) (r : AV) : Prop := ∃ nx pay cost, okC nx pay cost ∧ args = [chA nx pay cost] ∧ r = LP (bestL nx pay cost)
theorem map_inj {α β : Type} {f : α → β} (hf : ∀ a b, f a = f b → a = b) : ∀ {xs ys : List α}, xs.map f = ys.map f → xs = ys
  | [], [], _ => rfl
  | [], _ :: _, h => by cases h
  | _ :: _, [], h => by cases h
  | x :: xs, y :: ys, h => by
    simp only [List.map_cons, List.cons.injEq] at h
    rw [hf _ _ h.1, map_inj hf h.2]
theorem L_inj {α : Type} {f : α → List AV} (hf : ∀ a b, f a = f b → a = b) {xs ys : List α} (h : L f xs = L f ys) : xs = ys := by
  injection h with h; exact map_inj hf h
theorem LI_inj {xs ys : List Int} (h : LI xs = LI ys) : xs = ys := L_inj (fun a b h => by injection h with h; injection h) h
theorem LLI_inj {xs ys : List (List Int)} (h : LLI xs = LLI ys) : xs = ys := L_inj (fun a b h => by injection h with h; exact LI_inj h) h
theorem BestRel.det {args : List AV} {r s : AV} (h : BestRel args r) (k : BestRel args s) : r = s := by
  obtain ⟨a, b, c, _, e, rfl⟩ := h
  obtain ⟨a', b', c', _, e', rfl⟩ := k
  rw [e] at e'
  simp only [List.cons.injEq, AV.agg.injEq, and_true] at e'
  obtain ⟨e1, e2, e3⟩ := e'
  rw [LLI_inj e1, LI_inj e2, LI_inj e3]

def baseX : List Nat := [15, 17, 18, 19, 20, 22, 28, 29, 30, 31, 32, 33, 34, 35, 36, 37, 47, 48, 50, 63, 66]
open Classical in
noncomputable def extX (f : FuncId) (args : List AV) : Option AV :=
  if f = 49 then (if h : ∃ r, BestRel args r then some h.choose else none)
  else if f = 21 then (if args = [] then some (.bool true) else none)
  else if baseX.contains f = true then (if h : ∃ r, Con Try.prog cfg f args r then some h.choose else none) else none
noncomputable def cfgX : Cfg := { cfg with ext := extX }
theorem hextX : ExtOk Try.prog cfgX := by
  intro f args r he
  have he : extX f args = some r := he
  unfold extX at he
  split at he
  · rename_i h49
    split at he
    · rename_i h
      cases he
      obtain ⟨nx, pay, cost, C, e, er⟩ := h.choose_spec
      subst h49
      rw [er, e]
      exact ⟨f49_pure C, fun _ => pure_L _⟩
    · cases he
  split at he
  · rename_i h21
    split at he
    · rename_i hn
      cases he
      subst h21; subst hn
      exact ⟨f21_pure, fun _ => rfl⟩
    · cases he
  split at he
  · rename_i hbase
    split at he
    · rename_i h
      cases he
      obtain ⟨k, hk⟩ := h.choose_spec
      exact ⟨(sound hext0 k).2.2.1 _ _ _ hk, fun ho => callP_pure (P := Try.prog) (cfg := cfg) (fun _ _ _ h => by cases h) rfl hk⟩
    · cases he
  · cases he
theorem liftX {f : FuncId} {args : List AV} {r : AV} (hb : (decide (f = 49) || (decide (f = 21) || !baseX.contains f)) = false) (hc : Con Try.prog cfg f args r) : Con Try.prog cfgX f args r := by
  simp only [Bool.or_eq_false_iff, decide_eq_false_iff_not, Bool.not_eq_false'] at hb
  refine ⟨1, ?_⟩
  have : extX f args = some r := by
    unfold extX
    have hex : ∃ r, Con Try.prog cfg f args r := ⟨r, hc⟩
    rw [if_neg hb.1, if_neg hb.2.1, if_pos hb.2.2, dif_pos hex]
    obtain ⟨k, hk⟩ := hex.choose_spec
    obtain ⟨k', hk'⟩ := hc
    rw [callP_det hk hk']
  show (match extX f args with | some r => some r | none => _) = _
  rw [this]
theorem awakeX : Con Try.prog cfgX 21 [] (.bool true) := by
  refine ⟨1, ?_⟩
  have : cfgX.ext 21 [] = some (.bool true) := by
    show extX 21 [] = _
    unfold extX
    rw [if_neg (by decide), if_pos rfl, if_pos rfl]
  simp only [callP, this]
theorem bestX {nx : List (List Int)} {pay cost : List Int} (C : okC nx pay cost) : Con Try.prog cfgX 49 [chA nx pay cost] (LP (bestL nx pay cost)) := by
  refine ⟨1, ?_⟩
  have hr : BestRel [chA nx pay cost] (LP (bestL nx pay cost)) := ⟨nx, pay, cost, C, rfl, rfl⟩
  have : extX 49 [chA nx pay cost] = some (LP (bestL nx pay cost)) := by
    unfold extX
    have hex : ∃ r, BestRel [chA nx pay cost] r := ⟨_, hr⟩
    rw [if_pos rfl, dif_pos hex, BestRel.det hex.choose_spec hr]
  show (match extX 49 [chA nx pay cost] with | some r => some r | none => _) = _
  rw [this]
@[go_sem] theorem shr49 : cfg.shared 49 = false := by kernel_rfl
@[go_sem] theorem cfgX_strict (a b : Nat) : cfgX.strict a b = cfg.strict a b := rfl
@[go_sem] theorem cfgX_shared (f : Nat) : cfgX.shared f = cfg.shared f := rfl
@[go_sem] theorem cfgX_own (f : Nat) : cfgX.own f = cfg.own f := rfl
@[go_sem] theorem cfgX_kn (f : Nat) : cfgX.keepNil f = cfg.keepNil f := rfl
@[go_sem] theorem cfgX_wr (a b : Nat) : cfgX.wr a b = cfg.wr a b := rfl
theorem okX16 : funcOk cfgX Try.f16 (Try.f16.body.getD .skip) = true := by kernel_rfl
end Go.Proofs.Ytgamcclfdkpcgaa

set_option linter.unusedVariables false
set_option linter.unusedSimpArgs false
set_option maxRecDepth 10000
namespace Go.Proofs.Ytgamcclfdkpcgaa
open Go Go.Am

variable {h h' : Hp} {K : AV → Hp → Prop}

/-! ### Fractions that may be given -/
def isVB (f : Int × Int) : Bool := inB f.2 1 1048576 && (inB f.1 (-1099511627776) 1099511627776 && decide (gcdI f.1 f.2 = 1))
end Go.Proofs.Ytgamcclfdkpcgaa

set_option linter.unusedVariables false
set_option linter.unusedSimpArgs false
set_option maxRecDepth 10000
namespace Go.Proofs.Ytgamcclfdkpcgaa
open Go Go.Am

variable {h h' : Hp} {K : AV → Hp → Prop}

/-! ### Best and Check, with the answer of best put in -/
def chkR (nx : List (List Int)) (pay cost : List Int) (b v : List (Int × Int)) : Int := if chB nx pay cost && (decide (v.length = nx.length) && v.all isVB) then (if v = b then 0 else 10) else 2
def bstR (nx : List (List Int)) (pay cost : List Int) (b : List (Int × Int)) : AV := if chB nx pay cost then .tup [LP b, LI (stopsL nx.length pay b nx.length), I 0] else .tup [LP [], LI [], I 2]
theorem f16_con (nx : List (List Int)) (pay cost : List Int) (hk : okN nx pay cost) : Con Try.prog cfgX 16 [chA nx pay cost] (bstR nx pay cost (bestL nx pay cost)) := by
  have ml : maxLen = 9223372036854775807 := by decide
  have hal : ∀ g : Hp, allocB g (some (chA nx pay cost)) = some (.ptr g.nx 0, g.alloc (.cells false false [LLI nx, LI pay, LI cost])) := fun g => allocB_agg _ rfl
  have hal2 : ∀ (g : Hp) (x y : Int), allocB g (some (.agg [I x, I y])) = some (.ptr g.nx 0, g.alloc (.cells false false [I x, I y])) := fun g x y => allocB_agg _ rfl
  have k48 := fun h h' K => ConW_num (h := h) (h' := h') (K := K) (liftX (by decide) (f48_con nx pay cost hk)) rfl
  have hse : ∀ h : Hp, sealA h (chA nx pay cost) = some (chA nx pay cost, h) := fun h => sealA_agg _ (by simp only [AV.pureL, pure_L, Bool.and_true])
  cases c1 : chB nx pay cost with
  | false =>
    have hr : bstR nx pay cost (bestL nx pay cost) = .tup [LP [], LI [], I 2] := by rw [bstR, c1]; rfl
    rw [hr]
    refine Con_intro Try.func16 rfl okX16 (Nat.le_of_ble_eq_true rfl) rfl ?_
    simp only [Try.f16, Option.getD_some, initSt1]
    simp (disch := first | (simp only [go_sem, gb0, eq_self]; done) | omega | (simp only [gl1, gl2]; omega)) only [go_sem, ↓reduceIte, Nat.reduceEqDiff, Nat.reduceAdd, Nat.reduceMul, Nat.reduceSub, Int.reduceToNat, Nat.reduceBEq, hal, k48, hse, c1]
    rfl
  | true =>
    have C := okC.of c1
    have hr : bstR nx pay cost (bestL nx pay cost) = .tup [LP (bestL nx pay cost), LI (stopsL nx.length pay (bestL nx pay cost) nx.length), I 0] := by rw [bstR, c1]; rfl
    have hbl := bestL_len C
    have hlp := C.lp
    have hn6 := C.n6
    have kb := fun h h' K => ConW_any (h := h) (h' := h') (K := K) (bestX C) rfl
    have hi : ∀ (h : Hp) (l : List (Int × Int)), importR h (LP l) = (LP l, h) := fun _ _ => rfl
    rw [hr]
    generalize bestL nx pay cost = b at *
    obtain ⟨n, hn⟩ : ∃ n, n = nx.length := ⟨_, rfl⟩
    rw [← hn] at hbl ⊢
    refine Con_intro Try.func16 rfl okX16 (Nat.le_of_ble_eq_true rfl) rfl ?_
    simp only [Try.f16, Option.getD_some, initSt1]
    simp (disch := first | (simp only [go_sem, gb0, eq_self]; done) | omega | (simp only [gl1, gl2]; omega)) only [go_sem, ↓reduceIte, Nat.reduceEqDiff, Nat.reduceAdd, Nat.reduceMul, Nat.reduceSub, Int.reduceToNat, Nat.reduceBEq, hal, k48, hse, c1, kb, hi]
    refine WP_cut (fun st h => st 5 = LP b ∧ ∃ y, st 6 = y ∧ Go.Am.Own (e1 I) 1 h y (stopsL n pay b n)) ?_ ?_
    · refine WP_for 16 n (fun i st g => st 1 = .ptr 0 0 ∧ st 5 = LP b ∧ st 14 = LP b ∧ st 15 = I n ∧ 1 ≤ g.nx ∧ g.bl 0 = some (.cells false false [LLI nx, LI pay, LI cost]) ∧ ∃ y, st 6 = y ∧ OwnGe 1 (e1 I) 1 g y (stopsL n pay b i)) (by simp (disch := first | (simp only [go_sem, gb0, eq_self]; done) | omega | (simp only [gl1, gl2]; omega)) only [go_sem, ↓reduceIte, Nat.reduceEqDiff, Nat.reduceAdd, Nat.reduceMul, Nat.reduceSub, Int.reduceToNat, Nat.reduceBEq])
        ⟨by simp (disch := first | (simp only [go_sem, gb0, eq_self]; done) | omega | (simp only [gl1, gl2]; omega)) only [go_sem, ↓reduceIte, Nat.reduceEqDiff, Nat.reduceAdd, Nat.reduceMul, Nat.reduceSub, Int.reduceToNat, Nat.reduceBEq], by simp (disch := first | (simp only [go_sem, gb0, eq_self]; done) | omega | (simp only [gl1, gl2]; omega)) only [go_sem, ↓reduceIte, Nat.reduceEqDiff, Nat.reduceAdd, Nat.reduceMul, Nat.reduceSub, Int.reduceToNat, Nat.reduceBEq], by simp (disch := first | (simp only [go_sem, gb0, eq_self]; done) | omega | (simp only [gl1, gl2]; omega)) only [go_sem, ↓reduceIte, Nat.reduceEqDiff, Nat.reduceAdd, Nat.reduceMul, Nat.reduceSub, Int.reduceToNat, Nat.reduceBEq], by simp (disch := first | (simp only [go_sem, gb0, eq_self]; done) | omega | (simp only [gl1, gl2]; omega)) only [go_sem, ↓reduceIte, Nat.reduceEqDiff, Nat.reduceAdd, Nat.reduceMul, Nat.reduceSub, Int.reduceToNat, Nat.reduceBEq, hbl], by simp (disch := first | (simp only [go_sem, gb0, eq_self]; done) | omega | (simp only [gl1, gl2]; omega)) only [go_sem, ↓reduceIte, Nat.reduceEqDiff, Nat.reduceAdd, Nat.reduceMul, Nat.reduceSub, Int.reduceToNat, Nat.reduceBEq]; decide, by simp (disch := first | (simp only [go_sem, gb0, eq_self]; done) | omega | (simp only [gl1, gl2]; omega)) only [go_sem, ↓reduceIte, Nat.reduceEqDiff, Nat.reduceAdd, Nat.reduceMul, Nat.reduceSub, Int.reduceToNat, Nat.reduceBEq], .nil, by simp (disch := first | (simp only [go_sem, gb0, eq_self]; done) | omega | (simp only [gl1, gl2]; omega)) only [go_sem, ↓reduceIte, Nat.reduceEqDiff, Nat.reduceAdd, Nat.reduceMul, Nat.reduceSub, Int.reduceToNat, Nat.reduceBEq], .inl ⟨rfl, rfl⟩⟩ ?_
      rintro i st g hi s16 ⟨s1, s5, s14, s15, hgn, g0, y, s6, oy⟩
      by_cases hin : i < n
      case neg =>
        have hie : i = n := by omega
        subst hie
        simp (disch := first | (simp only [go_sem, gb0, eq_self]; done) | omega | (simp only [gl1, gl2]; omega)) only [go_sem, ↓reduceIte, Nat.reduceEqDiff, Nat.reduceAdd, Nat.reduceMul, Nat.reduceSub, Int.reduceToNat, Nat.reduceBEq, s1, s5, s14, s15, s16, s6, hin]
        exact ⟨_, rfl, oy.own⟩
      have hib : i < b.length := by omega
      have hib' : (i : Int) < b.length := by omega
      have hip : i < pay.length := by omega
      have hip' : (i : Int) < pay.length := by omega
      have hfs := filtL_succ (fun i => decide ((nth b i).1 = nth pay i) && decide ((nth b i).2 = 1)) i
      have hfl := filtL_len (fun i => decide ((nth b i).1 = nth pay i) && decide ((nth b i).2 = 1)) i
      obtain ⟨ys, hys⟩ : ∃ ys, ys = stopsL n pay b i := ⟨_, rfl⟩
      have hys2 : filtL (fun i => decide ((nth b i).1 = nth pay i) && decide ((nth b i).2 = 1)) i = ys := hys.symm
      rw [← hys] at oy
      rw [hys2] at hfs hfl
      have hfs3 : stopsL n pay b (i + 1) = if (decide ((nth b i).1 = nth pay i) && decide ((nth b i).2 = 1)) = true then ys ++ [(i : Int)] else ys := hfs
      have n0 : ¬ 0 = g.nx := by omega
      have l0 : 0 < g.nx + 1 := by omega
      have l1 : g.nx < g.nx + 1 := by omega
      obtain ⟨g2, hg2⟩ : ∃ g2, g2 = (g.alloc (.cells false false [I 0, I 0])).put g.nx (some (.cells false false [I (nth b i).1, I (nth b i).2])) := ⟨_, rfl⟩
      have hg2n : g2.nx = g.nx + 1 := by rw [hg2]; rfl
      have hg20 : g2.bl 0 = some (.cells false false [LLI nx, LI pay, LI cost]) := by rw [hg2, put_bl, if_neg n0, alloc_bl, if_neg n0]; exact g0
      have hg2J : g2.bl g.nx = some (.cells false false [I (nth b i).1, I (nth b i).2]) := by rw [hg2, put_bl, if_pos rfl]
      have oy2 : OwnGe 1 (e1 I) 1 g2 y ys := oy.mono (by omega) fun id _ h3 => by
        rw [hg2, put_bl, if_neg (by omega), alloc_bl, if_neg (by omega)]
      cases hc : (decide ((nth b i).1 = nth pay i) && decide ((nth b i).2 = 1)) with
      | false =>
        rw [hc] at hfs3
        have hfs4 : stopsL n pay b (i + 1) = ys := hfs3
        simp (disch := first | (simp only [go_sem, gb0, eq_self]; done) | omega | (simp only [gl1, gl2]; omega)) only [go_sem, ↓reduceIte, Nat.reduceEqDiff, Nat.reduceAdd, Nat.reduceMul, Nat.reduceSub, Int.reduceToNat, Nat.reduceBEq, s1, s5, s14, s15, s16, s6, hin, hib, hib', hip, hip', hal2, ← hg2, hg2n, hg20, hg2J, n0, l0, l1, hc, List.drop_succ_cons]
        rw [ForK_normal]
        exact ⟨hin, by simp (disch := first | (simp only [go_sem, gb0, eq_self]; done) | omega | (simp only [gl1, gl2]; omega)) only [go_sem, ↓reduceIte, Nat.reduceEqDiff, Nat.reduceAdd, Nat.reduceMul, Nat.reduceSub, Int.reduceToNat, Nat.reduceBEq, s16], by simp (disch := first | (simp only [go_sem, gb0, eq_self]; done) | omega | (simp only [gl1, gl2]; omega)) only [go_sem, ↓reduceIte, Nat.reduceEqDiff, Nat.reduceAdd, Nat.reduceMul, Nat.reduceSub, Int.reduceToNat, Nat.reduceBEq, s1], by simp (disch := first | (simp only [go_sem, gb0, eq_self]; done) | omega | (simp only [gl1, gl2]; omega)) only [go_sem, ↓reduceIte, Nat.reduceEqDiff, Nat.reduceAdd, Nat.reduceMul, Nat.reduceSub, Int.reduceToNat, Nat.reduceBEq, s5], by simp (disch := first | (simp only [go_sem, gb0, eq_self]; done) | omega | (simp only [gl1, gl2]; omega)) only [go_sem, ↓reduceIte, Nat.reduceEqDiff, Nat.reduceAdd, Nat.reduceMul, Nat.reduceSub, Int.reduceToNat, Nat.reduceBEq, s14], by simp (disch := first | (simp only [go_sem, gb0, eq_self]; done) | omega | (simp only [gl1, gl2]; omega)) only [go_sem, ↓reduceIte, Nat.reduceEqDiff, Nat.reduceAdd, Nat.reduceMul, Nat.reduceSub, Int.reduceToNat, Nat.reduceBEq, s15], by omega, hg20, y, by simp (disch := first | (simp only [go_sem, gb0, eq_self]; done) | omega | (simp only [gl1, gl2]; omega)) only [go_sem, ↓reduceIte, Nat.reduceEqDiff, Nat.reduceAdd, Nat.reduceMul, Nat.reduceSub, Int.reduceToNat, Nat.reduceBEq, s6], by rw [hfs4]; exact oy2⟩
      | true =>
        rw [hc] at hfs3
        have hfs4 : stopsL n pay b (i + 1) = ys ++ [(i : Int)] := hfs3
        have hbs := fun h => bsB_one (P := Try.prog) 3 (I i) (I i) (I 0) h isz3 izero3 rfl rfl rfl rfl rfl rfl rfl
        have happ := app_one (P := Try.prog) oy2.own 3 8 (I 0) (i : Int) isz3 ibytes3 izero3 rfl (by omega) (by omega)
        have ln : 1 ≤ (appH g2 y ((ys ++ [(i : Int)]).flatMap (e1 I))).nx := by rw [appH_nx]; omega
        have lo : OwnGe 1 (e1 I) 1 (appH g2 y ((ys ++ [(i : Int)]).flatMap (e1 I))) (appV g2 (ys ++ [(i : Int)]).length 1) (stopsL n pay b (i + 1)) := by
          rw [hfs4]
          exact OwnGe.app _ (by omega) _
        have ll0 : (appH g2 y ((ys ++ [(i : Int)]).flatMap (e1 I))).bl 0 = some (.cells false false [LLI nx, LI pay, LI cost]) := by rw [oy2.low (by omega) (by omega)]; exact hg20
        generalize appH g2 y ((ys ++ [(i : Int)]).flatMap (e1 I)) = G at *
        generalize appV g2 (ys ++ [(i : Int)]).length 1 = u at *
        simp (disch := first | (simp only [go_sem, gb0, eq_self]; done) | omega | (simp only [gl1, gl2]; omega)) only [go_sem, ↓reduceIte, Nat.reduceEqDiff, Nat.reduceAdd, Nat.reduceMul, Nat.reduceSub, Int.reduceToNat, Nat.reduceBEq, s1, s5, s14, s15, s16, s6, hin, hib, hib', hip, hip', hal2, ← hg2, hg2n, hg20, hg2J, n0, l0, l1, hc, hbs, happ, List.drop_succ_cons]
        rw [ForK_normal]
        exact ⟨hin, by simp (disch := first | (simp only [go_sem, gb0, eq_self]; done) | omega | (simp only [gl1, gl2]; omega)) only [go_sem, ↓reduceIte, Nat.reduceEqDiff, Nat.reduceAdd, Nat.reduceMul, Nat.reduceSub, Int.reduceToNat, Nat.reduceBEq, s16], by simp (disch := first | (simp only [go_sem, gb0, eq_self]; done) | omega | (simp only [gl1, gl2]; omega)) only [go_sem, ↓reduceIte, Nat.reduceEqDiff, Nat.reduceAdd, Nat.reduceMul, Nat.reduceSub, Int.reduceToNat, Nat.reduceBEq, s1], by simp (disch := first | (simp only [go_sem, gb0, eq_self]; done) | omega | (simp only [gl1, gl2]; omega)) only [go_sem, ↓reduceIte, Nat.reduceEqDiff, Nat.reduceAdd, Nat.reduceMul, Nat.reduceSub, Int.reduceToNat, Nat.reduceBEq, s5], by simp (disch := first | (simp only [go_sem, gb0, eq_self]; done) | omega | (simp only [gl1, gl2]; omega)) only [go_sem, ↓reduceIte, Nat.reduceEqDiff, Nat.reduceAdd, Nat.reduceMul, Nat.reduceSub, Int.reduceToNat, Nat.reduceBEq, s14], by simp (disch := first | (simp only [go_sem, gb0, eq_self]; done) | omega | (simp only [gl1, gl2]; omega)) only [go_sem, ↓reduceIte, Nat.reduceEqDiff, Nat.reduceAdd, Nat.reduceMul, Nat.reduceSub, Int.reduceToNat, Nat.reduceBEq, s15], ln, ll0, _, by simp (disch := first | (simp only [go_sem, gb0, eq_self]; done) | omega | (simp only [gl1, gl2]; omega)) only [go_sem, ↓reduceIte, Nat.reduceEqDiff, Nat.reduceAdd, Nat.reduceMul, Nat.reduceSub, Int.reduceToNat, Nat.reduceBEq], lo⟩
    · rintro st h ⟨s5, y, s6, oy⟩
      obtain ⟨g, hsy, _⟩ := sealA_Own oy
      simp (disch := first | (simp only [go_sem, gb0, eq_self]; done) | omega | (simp only [gl1, gl2]; omega)) only [go_sem, ↓reduceIte, Nat.reduceEqDiff, Nat.reduceAdd, Nat.reduceMul, Nat.reduceSub, Int.reduceToNat, Nat.reduceBEq, s5, s6, hsy]
end Go.Proofs.Ytgamcclfdkpcgaa

set_option linter.unusedVariables false
set_option linter.unusedSimpArgs false
set_option maxRecDepth 10000
namespace Go.Proofs.Ytgamcclfdkpcgaa
open Go Go.Am

variable {h h' : Hp} {K : AV → Hp → Prop}

theorem stops_len (n : Nat) (pay : List Int) (b : List (Int × Int)) : (stopsL n pay b n).length ≤ n := filtL_len _ _
end Go.Proofs.Ytgamcclfdkpcgaa

set_option linter.unusedVariables false
set_option linter.unusedSimpArgs false
set_option maxRecDepth 10000
namespace Go.Proofs.Ytgamcclfdkpcgaa
open Go Go.Am

/-- The best values, with what they obey. -/
theorem best_all {nx : List (List Int)} {pay cost : List Int} (C : okC nx pay cost) : ∃ (V : Nat → Int) (D : Int), Bst nx.length (wF nx) (pF pay) (pF cost) V D ∧ ∀ i, i < nx.length → nth (bestL nx pay cost) i = rdP (V i) D := by
  obtain ⟨x, _, hs, hu, he⟩ := best_is C
  exact ⟨_, _, Bst.of C.ch (by have := C.n1; omega) hs hu, fun i hi => by rw [he, valL_nth pay cost x hi]⟩
theorem stop_iff {V D p : Int} (hD : 0 < D) : ((rdP V D).1 = p ∧ (rdP V D).2 = 1) ↔ V = p * D := by
  constructor
  · rintro ⟨h1, h2⟩
    have := rdP_val (a := V) hD
    rw [h1, h2, Int.mul_one] at this
    exact this.symm
  · intro h
    rw [h, rdP_whole p hD]
    exact ⟨rfl, rfl⟩
theorem bC5 {n : Nat} (h : n ≤ 5) : bC n ≤ 295245000 := by
  unfold bC
  have h1 : (9 : Int) ^ n ≤ 59049 := by
    have := Nat.pow_le_pow_right (n := 9) (by decide) h
    have h9 : (9 : Nat) ^ 5 = 59049 := by decide
    have : ((9 ^ n : Nat) : Int) ≤ 59049 := by rw [h9] at this; exact Int.ofNat_le.2 this
    rwa [Int.natCast_pow] at this
  have h2 : (0 : Int) ≤ 9 ^ n := by
    have : (0 : Int) ≤ ((9 ^ n : Nat) : Int) := Int.natCast_nonneg _
    rwa [Int.natCast_pow] at this
  have h3 : (n : Int) ≤ 5 := by omega
  have h4 : (n : Int) * (1000 * 9 ^ n) ≤ 5 * (1000 * 9 ^ n) := Int.mul_le_mul_of_nonneg_right h3 (by omega)
  omega
theorem bE5 {n : Nat} (h : n ≤ 5) : bE n ≤ 32768 := by
  unfold bE
  have := Nat.pow_le_pow_right (n := 8) (by decide) h
  have h8 : (8 : Nat) ^ 5 = 32768 := by decide
  have : ((8 ^ n : Nat) : Int) ≤ 32768 := by omega
  rwa [Int.natCast_pow] at this
theorem val_small {nx : List (List Int)} {pay cost : List Int} (C : okC nx pay cost) (h5 : nx.length ≤ 5) {x : Nat} (hs : sndP nx.length (wF nx) (ruleB x)) : smB (valL nx pay cost x) := by
  intro i hi
  rw [valL_len] at hi
  rw [valL_nth pay cost x hi]
  have hv := vals_of C.ch hs (by have := C.n1; omega)
  have h1 := rdP_den (a := VN nx.length (wF nx) (pF pay) (pF cost) (ruleB x) i) hv.pos
  have h2 := DN_b C.ch hs
  have h3 := VN_b C.ch hs hi
  have h4 := bC5 h5
  have h6 := bE5 h5
  have h7 := rdP_val (a := VN nx.length (wF nx) (pF pay) (pF cost) (ruleB x) i) hv.pos
  have h8 := rdP_absN (a := VN nx.length (wF nx) (pF pay) (pF cost) (ruleB x) i) hv.pos
  refine ⟨⟨by omega, by omega⟩, ?_⟩
  unfold absI at h8; omega
end Go.Proofs.Ytgamcclfdkpcgaa

set_option linter.unusedVariables false
set_option linter.unusedSimpArgs false
set_option maxRecDepth 10000
namespace Go.Proofs.Ytgamcclfdkpcgaa
open Go Go.Am

variable {h h' : Hp} {K : AV → Hp → Prop}

theorem alloc_low (h : Hp) (b : Blk) {i : Nat} (hi : i < h.nx) : (h.alloc b).bl i = h.bl i := by rw [alloc_bl, if_neg (by omega)]
theorem put_low (h : Hp) (id : Nat) (b : Option Blk) {i : Nat} (hi : i ≠ id) : (h.put id b).bl i = h.bl i := by rw [put_bl, if_neg hi]

/-- A place to stop at. -/
def WPy (P : Program) (cfg : Cfg) (c : Code) (st : St) (h : Hp) (Q : Exit → St → Hp → Prop) : Prop := WP P cfg c st h Q
theorem WPy_congr {P : Program} {cfg : Cfg} {c : Code} {st st' : St} {h h' : Hp} {Q : Exit → St → Hp → Prop} (e : st = st') (e2 : h = h') : WPy P cfg c st h Q = WPy P cfg c st' h' Q := by rw [e, e2]
attribute [congr] WPy_congr
theorem stopY (n : Nat) (d : Bool) {P : Program} {cfg : Cfg} {ops : Array Oper} {st : St} {h : Hp} {Q : Exit → St → Hp → Prop} : WP P cfg (.region n ops d) st h Q = WPy P cfg (.region n ops d) st h Q := rfl
theorem WPy_go {P : Program} {cfg : Cfg} {c : Code} {st : St} {h : Hp} {Q : Exit → St → Hp → Prop} (F : St → Hp → Prop) (hF : F st h) (hw : ∀ st h, F st h → WP P cfg c st h Q) : WPy P cfg c st h Q := hw st h hF

/-- A chain that is handed over. -/
def ownCh (R : List (List Int)) (P C : List Int) : AV := .own (.agg [.fresh 1 (R.flatMap (e1 LI)), .fresh 1 (P.flatMap (e1 I)), .fresh 1 (C.flatMap (e1 I))])
theorem ownCh_free {R : List (List Int)} (P C : List Int) (h : 0 < R.length) : (ownCh R P C).isFree = false := by
  cases R with
  | nil => cases h
  | cons r R => rfl
/-- A chain of one's own, sealed: its three blocks are frozen. -/
theorem seal_own3 {g : Hp} {a b c : Nat} {R : List (List Int)} {P C : List Int} {f1 f2 f3 : Bool} (h1 : g.bl a = some (.cells f1 true (R.flatMap (e1 LI)))) (h2 : g.bl b = some (.cells f2 true (P.flatMap (e1 I)))) (h3 : g.bl c = some (.cells f3 true (C.flatMap (e1 I))))
    (ab : a ≠ b) (ac : a ≠ c) (bc : b ≠ c) : sealA g (.agg [.sl a 0 R.length 1, .sl b 0 P.length 1, .sl c 0 C.length 1]) = some (chA R P C, ((g.put a (some (.cells true true (R.flatMap (e1 LI))))).put b (some (.cells true true (P.flatMap (e1 I))))).put c (some (.cells true true (C.flatMap (e1 I))))) := by
  have s1 : sealV g (.sl a 0 R.length 1) = some (LLI R, g.put a (some (.cells true true (R.flatMap (e1 LI))))) := by
    show sealA g (.sl a 0 R.length 1) = _
    rw [sealA_sl, h1]; exact sealSl_own (f := e1 LI) (sz := 1) a R.length f1 true R rfl
  have h2' : (g.put a (some (.cells true true (R.flatMap (e1 LI))))).bl b = some (.cells f2 true (P.flatMap (e1 I))) := by rw [put_low _ _ _ ab.symm]; exact h2
  have s2 : sealV (g.put a (some (.cells true true (R.flatMap (e1 LI))))) (.sl b 0 P.length 1) = some (LI P, (g.put a (some (.cells true true (R.flatMap (e1 LI))))).put b (some (.cells true true (P.flatMap (e1 I))))) := by
    show sealA _ (.sl b 0 P.length 1) = _
    rw [sealA_sl, h2']; exact sealSl_own (f := e1 I) (sz := 1) b P.length f2 true P rfl
  have h3' : ((g.put a (some (.cells true true (R.flatMap (e1 LI))))).put b (some (.cells true true (P.flatMap (e1 I))))).bl c = some (.cells f3 true (C.flatMap (e1 I))) := by rw [put_low _ _ _ bc.symm, put_low _ _ _ ac.symm]; exact h3
  have s3 : sealV ((g.put a (some (.cells true true (R.flatMap (e1 LI))))).put b (some (.cells true true (P.flatMap (e1 I))))) (.sl c 0 C.length 1) = some (LI C, ((g.put a (some (.cells true true (R.flatMap (e1 LI))))).put b (some (.cells true true (P.flatMap (e1 I))))).put c (some (.cells true true (C.flatMap (e1 I))))) := by
    show sealA _ (.sl c 0 C.length 1) = _
    rw [sealA_sl, h3']; exact sealSl_own (f := e1 I) (sz := 1) c C.length f3 true C rfl
  have sc : sealCells g [.sl a 0 R.length 1, .sl b 0 P.length 1, .sl c 0 C.length 1] = some ([LLI R, LI P, LI C], ((g.put a (some (.cells true true (R.flatMap (e1 LI))))).put b (some (.cells true true (P.flatMap (e1 I))))).put c (some (.cells true true (C.flatMap (e1 I))))) := by
    simp only [sealCells, s1, s2, s3, Option.bind_some, Option.map_some]
  have hp : (AV.agg [.sl a 0 R.length 1, .sl b 0 P.length 1, .sl c 0 C.length 1]).isPure = false := rfl
  simp only [sealA, hp, sc, Option.map_some]
  rfl
theorem export_ownCh (t : TypeId) {a b c : Nat} {R : List (List Int)} {P C : List Int} (h1 : h.bl a = some (.cells false true (R.flatMap (e1 LI)))) (h2 : h.bl b = some (.cells false true (P.flatMap (e1 I)))) (h3 : h.bl c = some (.cells false true (C.flatMap (e1 I))))
    (ab : a ≠ b) (ac : a ≠ c) (bc : b ≠ c) : exportR Try.prog true true [t] h (.agg [.sl a 0 R.length 1, .sl b 0 P.length 1, .sl c 0 C.length 1]) = some (ownCh R P C) := by
  have e1' := freshN_own (f := e1 LI) (sz := 1) (k := 2) (u := []) h1 rfl (by simp)
  have e2' := freshN_own (f := e1 I) (sz := 1) (k := 2) (u := [a]) h2 rfl (by simp [ab.symm])
  have e3' := freshN_own (f := e1 I) (sz := 1) (k := 2) (u := [b, a]) h3 rfl (by simp [ac.symm, bc.symm])
  show (exportV Try.prog true true t h [] (.agg [.sl a 0 R.length 1, .sl b 0 P.length 1, .sl c 0 C.length 1])).bind _ = _
  have : exportV Try.prog true true t h [] (.agg [.sl a 0 R.length 1, .sl b 0 P.length 1, .sl c 0 C.length 1]) = some (ownCh R P C, h, [c, b, a]) := by
    unfold exportV
    rw [if_pos rfl, if_pos rfl, if_neg (by simp [AV.isPure, AV.pureL])]
    simp only [freshV, freshAll, e1', e2', e3', Option.bind_some, Option.map_some]
    rfl
  rw [this]; rfl
theorem importR_ownCh (R : List (List Int)) (P C : List Int) : importR h (ownCh R P C) = (.agg [.sl h.nx 0 R.length 1, .sl (h.nx + 1) 0 P.length 1, .sl (h.nx + 2) 0 C.length 1], ((h.alloc (.cells false true (R.flatMap (e1 LI)))).alloc (.cells false true (P.flatMap (e1 I)))).alloc (.cells false true (C.flatMap (e1 I)))) := by
  have e1' := fun h => importN_own (h := h) (f := e1 LI) (sz := 1) (k := 2) R
  have e2' := fun h => importN_own (h := h) (f := e1 I) (sz := 1) (k := 2) P
  have e3' := fun h => importN_own (h := h) (f := e1 I) (sz := 1) (k := 2) C
  show importV h (.own (.agg [_, _, _])) = _
  simp only [importV, mapH, e1', e2', e3']
  rfl

def offA : List Nat := [3, 4, 10, 15, 17, 28]
open Classical in
noncomputable def extA (f : FuncId) (args : List AV) : Option AV :=
  if offA.contains f = true then none else if h : ∃ r, Con Try.prog cfgX f args r then some h.choose else none
noncomputable def cfgA : Cfg := { cfg with ext := extA, own := fun f => f == 28 || (f == 17 || f == 15), keepNil := fun f => f == 17 || f == 15, late := fun a b => if a == 1 && b == 9 then [7] else if a == 4 && b == 8 then [4, 5] else [], strict := fun a b => cfg.strict a b || (a == 4 && b == 8) }
theorem pureX : ∀ f args r, cfgX.ext f args = some r → cfgX.own f = false → r.isPure = true := fun f args r he ho => (hextX f args r he).2 ho
theorem hextA : ExtOk Try.prog cfgA := by
  intro f args r he
  have he : extA f args = some r := he
  unfold extA at he
  split at he
  · cases he
  · split at he
    · rename_i h
      cases he
      obtain ⟨k, hk⟩ := h.choose_spec
      exact ⟨(sound hextX k).2.2.1 _ _ _ hk, fun ho => callP_pure (P := Try.prog) (cfg := cfgX) pureX rfl hk⟩
    · cases he
theorem liftA {f : FuncId} {args : List AV} {r : AV} (hb : offA.contains f = false) (hc : Con Try.prog cfgX f args r) : Con Try.prog cfgA f args r := by
  refine ⟨1, ?_⟩
  have : extA f args = some r := by
    unfold extA
    have hex : ∃ r, Con Try.prog cfgX f args r := ⟨r, hc⟩
    rw [if_neg (by rw [hb]; decide), dif_pos hex]
    obtain ⟨k, hk⟩ := hex.choose_spec
    obtain ⟨k', hk'⟩ := hc
    rw [callP_det hk hk']
  show (match extA f args with | some r => some r | none => _) = _
  rw [this]
@[go_sem] theorem cfgA_strict (a b : Nat) : cfgA.strict a b = (cfg.strict a b || (a == 4 && b == 8)) := rfl
@[go_sem] theorem cfgA_shr (f : Nat) : cfgA.shared f = cfg.shared f := rfl
@[go_sem] theorem ownA15 : cfgA.own 15 = true := rfl
@[go_sem] theorem ownA17 : cfgA.own 17 = true := rfl
@[go_sem] theorem ownA28 : cfgA.own 28 = true := rfl
@[go_sem] theorem ownA30 : cfgA.own 30 = false := rfl
@[go_sem] theorem cfgA_kn15 : cfgA.keepNil 15 = true := rfl
@[go_sem] theorem cfgA_kn17 : cfgA.keepNil 17 = true := rfl
@[go_sem] theorem cfgA_kn28 : cfgA.keepNil 28 = false := rfl
@[go_sem] theorem cfgA_wr (a b : Nat) : cfgA.wr a b = cfg.wr a b := rfl
theorem okA15 : funcOk cfgA Try.f15 (Try.f15.body.getD .skip) = true := by kernel_rfl
theorem okA17 : funcOk cfgA Try.f17 (Try.f17.body.getD .skip) = true := by kernel_rfl
theorem okA28 : funcOk cfgA Try.f28 (Try.f28.body.getD .skip) = true := by kernel_rfl
theorem f28A (l : List Int) (hl : l.length ≤ maxLen) : Con Try.prog cfgA 28 [LI l] (.fresh 1 ((listM l).flatMap (e1 I))) := by
  have ml : maxLen = 9223372036854775807 := by decide
  have hmin : min (l.length : Int) 8 = ((min l.length 8 : Nat) : Int) := by omega
  have htl : (listM l).length = min l.length 8 := by rw [listM, List.length_take]; omega
  have hrow : l.take (min l.length 8) = listM l := rfl
  have happ1 := fun h => app_nil (P := Try.prog) (h := h) (f := e1 I) 3 8 (I 0) (LI (listM l)) (listM l) isz3 ibytes3 izero3 rfl (cellsOf_L _ _) (lenA_L _ _) (by omega) (by omega)
  refine Con_intro Try.func28 rfl okA28 (Nat.le_of_ble_eq_true rfl) rfl ?_
  simp only [Try.f28, Option.getD_some, initSt1]
  simp (disch := first | (simp only [go_sem, gb0, eq_self]; done) | omega | (simp only [gl1, gl2]; omega)) only [go_sem, ↓reduceIte, Nat.reduceEqDiff, Nat.reduceAdd, Nat.reduceMul, Nat.reduceSub, Int.reduceToNat, Nat.reduceBEq, hmin, hrow, happ1]
  exact export_fresh (f := e1 I) false 23 3 und23 isz3 (.inr ⟨0, rfl, Nat.lt_succ_self 0, rfl⟩)
theorem kA28 (l : List Int) (hl : l.length ≤ maxLen) : ConW Try.prog cfgA 28 h (some ([LI l], h')) K = K (.sl h'.nx 0 (listM l).length 1) (h'.alloc (.cells false true ((listM l).flatMap (e1 I)))) := by
  rw [ConW_any (f28A l hl) rfl, importR_fresh, fresh_len]
end Go.Proofs.Ytgamcclfdkpcgaa

set_option linter.unusedVariables false
set_option linter.unusedSimpArgs false
set_option maxRecDepth 10000
namespace Go.Proofs.Ytgamcclfdkpcgaa
open Go Go.Am

variable {h h' : Hp} {K : AV → Hp → Prop}

theorem f17_A (nx : List (List Int)) (pay cost : List Int) (hk : okN nx pay cost) (h0 : 0 < nx.length) : Con Try.prog cfgA 17 [chA nx pay cost] (ownCh (nxM nx) (listM pay) (listM cost)) := by
  have ml : maxLen = 9223372036854775807 := by decide
  have hn := hk.n
  have hal : ∀ g : Hp, allocB g (some (chA nx pay cost)) = some (.ptr g.nx 0, g.alloc (.cells false false [LLI nx, LI pay, LI cost])) := fun g => allocB_agg _ rfl
  have kp := fun h h' K => kA28 (h := h) (h' := h') (K := K) pay hk.p
  have kc := fun h h' K => kA28 (h := h) (h' := h') (K := K) cost hk.c
  have hal2 : ∀ g : Hp, allocB g (some (.agg [.nil, .nil, .nil])) = some (.ptr g.nx 0, g.alloc (.cells false false [.nil, .nil, .nil])) := fun g => allocB_agg _ rfl
  refine Con_intro Try.func17 rfl okA17 (Nat.le_of_ble_eq_true rfl) rfl ?_
  simp only [Try.f17, Option.getD_some, initSt1]
  have h03 : st0 3 = .skp := rfl
  have hbd : ∀ (x y : Nat), buildB Try.prog (Try.prog.underlying 25) (izero Try.prog 25) [(1, .sl x 0 (listM pay).length 1), (2, .sl y 0 (listM cost).length 1)] = some (.agg [.nil, .sl x 0 (listM pay).length 1, .sl y 0 (listM cost).length 1]) := fun x y => by kernel_rfl
  simp only [und25, izero25] at hbd
  have hs3 : ∀ (g : Hp) (id x y : Nat), storeC g id 0 3 (some (.cells false false [.nil, .nil, .nil])) [.nil, .sl x 0 (listM pay).length 1, .sl y 0 (listM cost).length 1] = some (.skp, g.put id (some (.cells false false [.nil, .sl x 0 (listM pay).length 1, .sl y 0 (listM cost).length 1]))) := fun g id x y => by simp [storeC, setL, AV.isCell]
  simp (maxSteps := 3000000) (disch := first | (simp only [go_sem, gb0, eq_self]; done) | omega | (simp only [gl1, gl2]; omega)) only [go_sem, ↓reduceIte, Nat.reduceEqDiff, Nat.reduceAdd, Nat.reduceMul, Nat.reduceSub, Int.reduceToNat, Nat.reduceBEq, hal, hal2, kp, kc, h03, hbd, hs3, List.filterMap_cons, List.filterMap_nil, List.contains_nil, List.contains_cons, Bool.not_false, Bool.not_true, Bool.or_true, Bool.true_or, List.nil_append, List.cons_append, Nat.reduceLT, decide_true, decide_false, List.drop_succ_cons]
  obtain ⟨fr, hfr⟩ : ∃ fr : Nat → List Int, fr = fun i => listM (nth nx i) := ⟨_, rfl⟩
  have hnm : nxM nx = (List.range (min nx.length 8)).map fr := by rw [hfr, nxM]
  obtain ⟨b, hb⟩ : ∃ b, b = AV.sl 2 0 (listM pay).length 1 := ⟨_, rfl⟩
  obtain ⟨c, hc⟩ : ∃ c, c = AV.sl 3 0 (listM cost).length 1 := ⟨_, rfl⟩
  have cb : b.isCell = true := by rw [hb]; rfl
  have cc : c.isCell = true := by rw [hc]; rfl
  have dbc : Dis b c := by
    intro id off n sz id' off' n' sz' x y
    rw [hb] at x; rw [hc] at y
    cases x; cases y; omega
  refine WP_cut (fun st g => st 2 = .ptr 1 0 ∧ st 3 = .ptr 4 0 ∧ 4 < g.nx ∧ g.bl 1 = some (.cells false false [.nil, .nil, .nil]) ∧ ∃ v, g.bl 4 = some (.cells false false [v, b, c]) ∧ Go.Am.Own (e1 LI) 1 g v (nxM nx) ∧ (Go.Am.Own (e1 I) 1 g b (listM pay) ∧ Go.Am.Own (e1 I) 1 g c (listM cost) ∧ Dis v b ∧ Dis v c)) ?_ ?_
  · refine WP_for 4 (min nx.length 8) (fun i st g => st 1 = .ptr 0 0 ∧ st 2 = .ptr 1 0 ∧ st 3 = .ptr 4 0 ∧ 4 < g.nx ∧ g.bl 0 = some (.cells false false [LLI nx, LI pay, LI cost]) ∧ g.bl 1 = some (.cells false false [.nil, .nil, .nil]) ∧ ∃ v, g.bl 4 = some (.cells false false [v, b, c]) ∧ Go.Am.Own (e1 LI) 1 g v ((List.range i).map fr) ∧ (Go.Am.Own (e1 I) 1 g b (listM pay) ∧ Go.Am.Own (e1 I) 1 g c (listM cost) ∧ Dis v b ∧ Dis v c)) (by simp (disch := first | (simp only [go_sem, gb0, eq_self]; done) | omega | (simp only [gl1, gl2]; omega)) only [go_sem, ↓reduceIte, Nat.reduceEqDiff, Nat.reduceAdd, Nat.reduceMul, Nat.reduceSub, Int.reduceToNat, Nat.reduceBEq])
      ⟨by simp (disch := first | (simp only [go_sem, gb0, eq_self]; done) | omega | (simp only [gl1, gl2]; omega)) only [go_sem, ↓reduceIte, Nat.reduceEqDiff, Nat.reduceAdd, Nat.reduceMul, Nat.reduceSub, Int.reduceToNat, Nat.reduceBEq], by simp (disch := first | (simp only [go_sem, gb0, eq_self]; done) | omega | (simp only [gl1, gl2]; omega)) only [go_sem, ↓reduceIte, Nat.reduceEqDiff, Nat.reduceAdd, Nat.reduceMul, Nat.reduceSub, Int.reduceToNat, Nat.reduceBEq], by simp (disch := first | (simp only [go_sem, gb0, eq_self]; done) | omega | (simp only [gl1, gl2]; omega)) only [go_sem, ↓reduceIte, Nat.reduceEqDiff, Nat.reduceAdd, Nat.reduceMul, Nat.reduceSub, Int.reduceToNat, Nat.reduceBEq], by simp (disch := first | (simp only [go_sem, gb0, eq_self]; done) | omega | (simp only [gl1, gl2]; omega)) only [go_sem, ↓reduceIte, Nat.reduceEqDiff, Nat.reduceAdd, Nat.reduceMul, Nat.reduceSub, Int.reduceToNat, Nat.reduceBEq]; decide, by simp (disch := first | (simp only [go_sem, gb0, eq_self]; done) | omega | (simp only [gl1, gl2]; omega)) only [go_sem, ↓reduceIte, Nat.reduceEqDiff, Nat.reduceAdd, Nat.reduceMul, Nat.reduceSub, Int.reduceToNat, Nat.reduceBEq], by simp (disch := first | (simp only [go_sem, gb0, eq_self]; done) | omega | (simp only [gl1, gl2]; omega)) only [go_sem, ↓reduceIte, Nat.reduceEqDiff, Nat.reduceAdd, Nat.reduceMul, Nat.reduceSub, Int.reduceToNat, Nat.reduceBEq], .nil, by simp (disch := first | (simp only [go_sem, gb0, eq_self]; done) | omega | (simp only [gl1, gl2]; omega)) only [go_sem, ↓reduceIte, Nat.reduceEqDiff, Nat.reduceAdd, Nat.reduceMul, Nat.reduceSub, Int.reduceToNat, Nat.reduceBEq, hb, hc], .inl ⟨rfl, rfl⟩, ⟨.inr ⟨2, hb, by simp (disch := first | (simp only [go_sem, gb0, eq_self]; done) | omega | (simp only [gl1, gl2]; omega)) only [go_sem, ↓reduceIte, Nat.reduceEqDiff, Nat.reduceAdd, Nat.reduceMul, Nat.reduceSub, Int.reduceToNat, Nat.reduceBEq]; decide, by simp (disch := first | (simp only [go_sem, gb0, eq_self]; done) | omega | (simp only [gl1, gl2]; omega)) only [go_sem, ↓reduceIte, Nat.reduceEqDiff, Nat.reduceAdd, Nat.reduceMul, Nat.reduceSub, Int.reduceToNat, Nat.reduceBEq]⟩, .inr ⟨3, hc, by simp (disch := first | (simp only [go_sem, gb0, eq_self]; done) | omega | (simp only [gl1, gl2]; omega)) only [go_sem, ↓reduceIte, Nat.reduceEqDiff, Nat.reduceAdd, Nat.reduceMul, Nat.reduceSub, Int.reduceToNat, Nat.reduceBEq]; decide, by simp (disch := first | (simp only [go_sem, gb0, eq_self]; done) | omega | (simp only [gl1, gl2]; omega)) only [go_sem, ↓reduceIte, Nat.reduceEqDiff, Nat.reduceAdd, Nat.reduceMul, Nat.reduceSub, Int.reduceToNat, Nat.reduceBEq]⟩, Dis.nil_l _, Dis.nil_l _⟩⟩ ?_
    rintro i st g hi s4 ⟨s1, s2, s3, gn, b0, b1, v, b4, ov, ⟨ob, oc, db, dc⟩⟩
    have fin : i = min nx.length 8 → Go.Am.Own (e1 LI) 1 g v (nxM nx) := fun hie => by
      rw [hnm, ← hie]
      exact ov
    by_cases hlt : i < nx.length
    case neg =>
      have hf := fin (by omega)
      simp (disch := first | (simp only [go_sem, gb0, eq_self]; done) | omega | (simp only [gl1, gl2]; omega)) only [go_sem, ↓reduceIte, Nat.reduceEqDiff, Nat.reduceAdd, Nat.reduceMul, Nat.reduceSub, Int.reduceToNat, Nat.reduceBEq, s1, s2, s3, s4, b0, hlt]
      exact ⟨gn, b1, v, b4, hf, ⟨ob, oc, db, dc⟩⟩
    by_cases h8 : (i : Int) < 8
    case neg =>
      have hf := fin (by omega)
      simp (disch := first | (simp only [go_sem, gb0, eq_self]; done) | omega | (simp only [gl1, gl2]; omega)) only [go_sem, ↓reduceIte, Nat.reduceEqDiff, Nat.reduceAdd, Nat.reduceMul, Nat.reduceSub, Int.reduceToNat, Nat.reduceBEq, s1, s2, s3, s4, b0, hlt, h8]
      exact ⟨gn, b1, v, b4, hf, ⟨ob, oc, db, dc⟩⟩
    have hil : (i : Int) < nx.length := by omega
    have kr := fun h h' K => kA28 (h := h) (h' := h') (K := K) (nth nx i) (hk.row _ (nth_mem hlt))
    have hri : listM (nth nx i) = fr i := by rw [hfr]
    rw [hri] at kr
    obtain ⟨J, hJ⟩ : ∃ J, J = g.nx := ⟨_, rfl⟩
    obtain ⟨G1, hG1⟩ : ∃ G1, G1 = g.alloc (.cells false true ((fr i).flatMap (e1 I))) := ⟨_, rfl⟩
    have G1J : G1.bl J = some (.cells false true ((fr i).flatMap (e1 I))) := by rw [hG1, alloc_bl, if_pos hJ]
    have G1n : G1.nx = J + 1 := by rw [hG1, hJ]; rfl
    have G1o : ∀ id, id < J → G1.bl id = g.bl id := fun id hid => by rw [hG1]; exact alloc_low _ _ (by omega)
    obtain ⟨G, hG⟩ : ∃ G, G = G1.put J (some (.cells true true ((fr i).flatMap (e1 I)))) := ⟨_, rfl⟩
    have hse : sealA G1 (.sl J 0 (fr i).length 1) = some (LI (fr i), G) := by
      rw [sealA_sl, G1J, hG]; exact sealSl_own (f := e1 I) (sz := 1) J (fr i).length false true (fr i) rfl
    have Gn : G.nx = J + 1 := by rw [hG]; exact G1n
    have Go : ∀ id, id < J → G.bl id = g.bl id := fun id hid => by rw [hG, put_low _ _ _ (by omega)]; exact G1o id hid
    have ov2 := ov.mono (h' := G) (by omega) fun id hid => Go id (by omega)
    have ob2 := ob.mono (h' := G) (by omega) fun id hid => Go id (by omega)
    have oc2 := oc.mono (h' := G) (by omega) fun id hid => Go id (by omega)
    have g0 := (Go 0 (by omega)).trans b0
    have g1 := (Go 1 (by omega)).trans b1
    have g4 := (Go 4 (by omega)).trans b4
    have hbs := bsB_one (P := Try.prog) 23 (.sl J 0 (fr i).length 1) (LI (fr i)) .nil G isz23 izero23 rfl rfl rfl hse rfl rfl (pure_L _)
    have happ := app_one (P := Try.prog) ov2 23 24 .nil (fr i) isz23 ibytes23 izero23 rfl (by simp; omega) (by simp; omega)
    obtain ⟨An, Ab, Ao, Ak⟩ := app_step ov2 ((List.range i).map fr ++ [fr i])
    obtain ⟨Aob, db'⟩ := Ak ob2 db
    obtain ⟨Aoc, dc'⟩ := Ak oc2 dc
    have A0 := Ab 0 _ _ g0 (by omega)
    have A1 := Ab 1 _ _ g1 (by omega)
    have A4 := Ab 4 _ _ g4 (by omega)
    clear Ak Ab
    rw [rows_snoc] at Ao
    have hV : appV G ((List.range i).map fr ++ [fr i]).length 1 = .sl G.nx 0 ((List.range i).map fr ++ [fr i]).length 1 := rfl
    have hl' : ((List.range i).map fr ++ [fr i]).length = ((List.range (i + 1)).map fr).length := by simp
    rw [hV] at happ db' dc'
    rw [show appV G ((List.range (i + 1)).map fr).length 1 = .sl G.nx 0 ((List.range i).map fr ++ [fr i]).length 1 by rw [hl']; rfl] at Ao
    rw [← rows_snoc] at Ao
    generalize appH G v (((List.range i).map fr ++ [fr i]).flatMap (e1 LI)) = A at *
    obtain ⟨V, hVe⟩ : ∃ V, V = AV.sl G.nx 0 ((List.range i).map fr ++ [fr i]).length 1 := ⟨_, rfl⟩
    rw [← hVe] at happ Ao db' dc'
    rw [rows_snoc] at Ao
    have lV : V.cells = [V] := by rw [hVe]; rfl
    have cV := own_cell Ao
    have hst : storeC A 4 0 1 (some (.cells false false [v, b, c])) [V] = some (.skp, A.put 4 (some (.cells false false [V, b, c]))) := by simp [storeC, setL, cV, cb, cc]
    simp (disch := first | (simp only [go_sem, gb0, eq_self]; done) | omega | (simp only [gl1, gl2]; omega)) only [go_sem, ↓reduceIte, Nat.reduceEqDiff, Nat.reduceAdd, Nat.reduceMul, Nat.reduceSub, Int.reduceToNat, Nat.reduceBEq, s1, s2, s3, s4, b0, b4, hlt, hil, h8, kr, ← hJ, ← hG1, hbs, happ, A4, lV, hst]
    rw [ForK_normal]
    exact ⟨by omega, by simp (disch := first | (simp only [go_sem, gb0, eq_self]; done) | omega | (simp only [gl1, gl2]; omega)) only [go_sem, ↓reduceIte, Nat.reduceEqDiff, Nat.reduceAdd, Nat.reduceMul, Nat.reduceSub, Int.reduceToNat, Nat.reduceBEq, s4], by simp (disch := first | (simp only [go_sem, gb0, eq_self]; done) | omega | (simp only [gl1, gl2]; omega)) only [go_sem, ↓reduceIte, Nat.reduceEqDiff, Nat.reduceAdd, Nat.reduceMul, Nat.reduceSub, Int.reduceToNat, Nat.reduceBEq, s1], by simp (disch := first | (simp only [go_sem, gb0, eq_self]; done) | omega | (simp only [gl1, gl2]; omega)) only [go_sem, ↓reduceIte, Nat.reduceEqDiff, Nat.reduceAdd, Nat.reduceMul, Nat.reduceSub, Int.reduceToNat, Nat.reduceBEq, s2], by simp (disch := first | (simp only [go_sem, gb0, eq_self]; done) | omega | (simp only [gl1, gl2]; omega)) only [go_sem, ↓reduceIte, Nat.reduceEqDiff, Nat.reduceAdd, Nat.reduceMul, Nat.reduceSub, Int.reduceToNat, Nat.reduceBEq, s3], show _ < A.nx by omega, by rw [put_low _ _ _ (by omega)]; exact A0, by rw [put_low _ _ _ (by omega)]; exact A1, V, by rw [put_bl, if_pos rfl], own_put Ao A4 _, ⟨own_put Aob A4 _, own_put Aoc A4 _, db', dc'⟩⟩
  · rintro st g ⟨s2, s3, gn, b1, v, b4, ov, ⟨ob, oc, db, dc⟩⟩
    have cv := own_cell ov
    have hs3 : storeC g 1 0 3 (some (.cells false false [.nil, .nil, .nil])) [v, b, c] = some (.skp, g.put 1 (some (.cells false false [v, b, c]))) := by simp [storeC, setL, cv, cb, cc]
    have hl0 : 0 < (nxM nx).length := by simp [nxM]; omega
    obtain ⟨a, rfl, ha, hba⟩ := (own_put ov b1 (some (.cells false false [v, b, c]))).sl hl0
    have ob' := own_put ob b1 (some (.cells false false [.sl a 0 (nxM nx).length 1, b, c]))
    have oc' := own_put oc b1 (some (.cells false false [.sl a 0 (nxM nx).length 1, b, c]))
    rcases ob' with ⟨e, _⟩ | ⟨b', e, _, hbb⟩
    · rw [hb] at e; cases e
    have eb := hb.symm.trans e; cases eb
    rcases oc' with ⟨e, _⟩ | ⟨c', e2, _, hbc⟩
    · rw [hc] at e; cases e
    have ec := hc.symm.trans e2; cases ec
    rw [hb, hc] at hba hbb hbc
    simp (disch := first | (simp only [go_sem, gb0, eq_self]; done) | omega | (simp only [gl1, gl2]; omega)) only [go_sem, ↓reduceIte, Nat.reduceEqDiff, Nat.reduceAdd, Nat.reduceMul, Nat.reduceSub, Int.reduceToNat, Nat.reduceBEq, s2, s3, b1, b4, hs3, hb, hc]
    have hx := export_ownCh 25 hba hbb hbc (fun e => db _ _ _ _ _ _ _ _ rfl hb e) (fun e => dc _ _ _ _ _ _ _ _ rfl hc e) (by decide)
    exact hx
end Go.Proofs.Ytgamcclfdkpcgaa
