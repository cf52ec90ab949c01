/-
  The reference's Values.
  The reference's Chain.
  Chains and lists of fractions, read as lists of numbers.
  tame: whatever chain goes in, a small true chain comes out.
  isBest; the values of a chain.
  The reference's Best: the plain law.
  The reference's Sound.
  The reference's Best.
  The chain laws' configuration: what best and awake answer is known.
-/
import Derived.Test.YtgamcclfdkpcgaaL2M2
import Derived.Test.YtgamcclfdkpcgaaL2M1
set_option linter.unusedVariables false
set_option linter.unusedSimpArgs false
set_option maxRecDepth 10000
namespace Go.Proofs.Ytgamcclfdkpcgaa
open Go Go.Am

variable {h h' : Hp} {K : AV → Hp → Prop}

theorem vecA_flat (f : Nat → Int) (N : Nat) : vecA f N = ((List.range N).map f).flatMap (e1 I) := by
  rw [vecA]
  induction N with
  | zero => rfl
  | succ n ih => rw [List.range_succ, List.map_append, List.map_append, List.flatMap_append, ← ih]; rfl
theorem vecA_zero (N : Nat) : (List.replicate N (0 : Int)).flatMap (e1 I) = vecA (fun _ => 0) N := by
  rw [vecA_flat, List.map_const', List.length_range]
def setV (f : Nat → Int) (k : Nat) (v : Int) : Nat → Int := fun j => if j = k then v else f j
@[go_sem] theorem vecA_store (f : Nat → Int) (id N k : Nat) (row : Bool) (v : Int) (hk : k < N) : storeC h id k 1 (some (.cells false row (vecA f N))) [.int .i64 v] = some (.skp, h.put id (some (.cells false row (vecA (setV f k v) N)))) := by
  rw [storeC_one id _ row _ (I v) rfl (by rw [vecA_len]; omega)]
  congr 5
  refine List.ext_getElem? fun j => ?_
  rw [List.getElem?_set]
  by_cases hj : j < N
  · by_cases e : k = j
    · subst e
      rw [if_pos rfl, if_pos (by rw [vecA_len]; omega), vecA_get _ _ _ hj]
      simp [setV]
    · rw [if_neg e, vecA_get _ _ _ hj, vecA_get _ _ _ hj]
      simp [setV, Ne.symm e]
  · rw [if_neg (by omega), List.getElem?_eq_none (by rw [vecA_len]; omega), List.getElem?_eq_none (by rw [vecA_len]; omega)]
theorem vecA_congr {f g : Nat → Int} {N : Nat} (h : ∀ k, k < N → f k = g k) : vecA f N = vecA g N := by
  refine List.map_congr_left fun k hk => ?_
  rw [h k (List.mem_range.1 hk)]
theorem seal_vec {id N : Nat} {fz row : Bool} {f : Nat → Int} (hb : h.bl id = some (.cells fz row (vecA f N))) : sealA h (.sl id 0 N 1) = some (LI ((List.range N).map f), h.put id (some (.cells true row (vecA f N)))) := by
  rw [vecA_flat] at hb ⊢
  rw [sealA_sl, hb]
  exact sealSl_own (f := e1 I) (sz := 1) (h := h) id N fz row ((List.range N).map f) (by simp)

/-- A list that is being built in blocks from b on. -/
def OwnGe {α : Type} (b : Nat) (f : α → List AV) (sz : Nat) (h : Hp) (v : AV) (xs : List α) : Prop :=
  (v = .nil ∧ xs = []) ∨ ∃ id, b ≤ id ∧ v = .sl id 0 xs.length sz ∧ id < h.nx ∧ h.bl id = some (.cells false true (xs.flatMap f))
theorem OwnGe.own {α : Type} {b : Nat} {f : α → List AV} {sz : Nat} {v : AV} {xs : List α} (o : OwnGe b f sz h v xs) : Go.Am.Own f sz h v xs := by
  rcases o with o | ⟨id, _, o⟩
  · exact .inl o
  · exact .inr ⟨id, o⟩
theorem OwnGe.mono {α : Type} {b : Nat} {f : α → List AV} {sz : Nat} {v : AV} {xs : List α} (o : OwnGe b f sz h v xs) (hn : h.nx ≤ h'.nx) (hb : ∀ id, b ≤ id → id < h.nx → h'.bl id = h.bl id) : OwnGe b f sz h' v xs := by
  rcases o with o | ⟨id, h1, e, h2, h3⟩
  · exact .inl o
  · exact .inr ⟨id, h1, e, by omega, by rw [hb id h1 h2]; exact h3⟩
theorem OwnGe.low {α : Type} {b : Nat} {f : α → List AV} {sz : Nat} {v : AV} {xs : List α} (o : OwnGe b f sz h v xs) {flat : List AV} {i : Nat} (hi : i < b) (hib : i < h.nx) : (appH h v flat).bl i = h.bl i := by
  refine appH_bl _ _ _ _ hib fun id off n s e => ?_
  rcases o with ⟨rfl, _⟩ | ⟨id', h1, e', _⟩
  · cases e
  · rw [e'] at e; cases e; omega
theorem OwnGe.app {α : Type} {b : Nat} {f : α → List AV} {sz : Nat} {v : AV} (h : Hp) (hb : b ≤ h.nx) (xs : List α) : OwnGe b f sz (appH h v (xs.flatMap f)) (appV h xs.length sz) xs := by
  rcases Own.app (f := f) (sz := sz) h v xs with ⟨e, _⟩ | ⟨id, e, h1, h2⟩
  · cases e
  · refine .inr ⟨id, ?_, e, h1, h2⟩
    unfold appV at e; cases e; exact hb
theorem rowL_len (f : Nat → Int) (n : Nat) : ((List.range n).map f).length = n := by simp

theorem f34_con {nx : List (List Int)} {pay cost : List Int} (C : okC nx pay cost) (l : List Int) (hl : l.length ≤ maxLen) (hs : sndP nx.length (wF nx) (ruleB (xOf nx.length l))) :
    Con Try.prog cfg 34 [chA nx pay cost, LI l] (LP (valL nx pay cost (xOf nx.length l))) := by
  obtain ⟨n, hn⟩ : ∃ n, n = nx.length := ⟨_, rfl⟩
  have hn1 := C.n1
  have hn6 := C.n6
  have hlp := C.lp
  have hlc := C.lc
  have hal : ∀ g : Hp, allocB g (some (chA nx pay cost)) = some (.ptr g.nx 0, g.alloc (.cells false false [LLI nx, LI pay, LI cost])) := fun g => allocB_agg _ rfl
  obtain ⟨M, hM⟩ : ∃ M, M = eqM nx.length (wF nx) (pF pay) (pF cost) (ruleB (xOf nx.length l)) := ⟨_, rfl⟩
  have hmk : ∀ g : Hp, makeB Try.prog g (some (.slice 3)) (.int .i64 (n : Int)) (.int .i64 (n : Int)) = some (.sl g.nx 0 n 1, g.alloc (.cells false true (vecA (fun _ => 0) n))) := fun g => by
    have := makeB_int (P := Try.prog) (h := g) 3 (n : Int) isz3 ibytes3 izero3 (by omega) (by omega)
    rwa [Int.toNat_natCast, vecA_zero] at this
  have k57 := fun v h h' K => ConW_num (h := h) (h' := h') (K := K) (f57_con l hl v) rfl
  obtain ⟨R, hR⟩ : ∃ R : Nat → List Int, R = fun i => (List.range n).map fun j => M i j := ⟨_, rfl⟩
  have hbit : ∀ i, i < n → hasB l i = ruleB (xOf nx.length l) i := fun i hi => (xOf_bit l (by omega)).symm
  refine Con_intro Try.func34 rfl ok34 (Nat.le_of_ble_eq_true rfl) rfl ?_
  simp only [Try.f34, Option.getD_some, initSt2]
  simp (disch := first | (simp only [go_sem, gb0, eq_self]; done) | omega | (simp only [gl1, gl2]; omega)) only [go_sem, ↓reduceIte, Nat.reduceEqDiff, Nat.reduceAdd, Nat.reduceMul, Nat.reduceSub, Int.reduceToNat, Nat.reduceBEq, hal, ← hn, hmk]
  -- the rows and the right side
  refine WP_cut (fun st h => st 2 = .ptr 0 0 ∧ st 5 = I n ∧ st 7 = .sl 1 0 n 1 ∧ 2 ≤ h.nx ∧ h.bl 1 = some (.cells false true (vecA (fun i => M i n) n)) ∧ ∃ v, st 6 = v ∧ OwnGe 2 (e1 LI) 1 h v ((List.range n).map R)) ?_ ?_
  · refine WP_for 8 n (fun i st h => st 1 = LI l ∧ st 2 = .ptr 0 0 ∧ st 5 = I n ∧ st 7 = .sl 1 0 n 1 ∧ 2 ≤ h.nx ∧ h.bl 0 = some (.cells false false [LLI nx, LI pay, LI cost]) ∧ h.bl 1 = some (.cells false true (vecA (fun k => if k < i then M k n else 0) n)) ∧ ∃ v, st 6 = v ∧ OwnGe 2 (e1 LI) 1 h v ((List.range i).map R)) (by simp (disch := first | (simp only [go_sem, gb0, eq_self]; done) | omega | (simp only [gl1, gl2]; omega)) only [go_sem, ↓reduceIte, Nat.reduceEqDiff, Nat.reduceAdd, Nat.reduceMul, Nat.reduceSub, Int.reduceToNat, Nat.reduceBEq])
      ⟨by simp (disch := first | (simp only [go_sem, gb0, eq_self]; done) | omega | (simp only [gl1, gl2]; omega)) only [go_sem, ↓reduceIte, Nat.reduceEqDiff, Nat.reduceAdd, Nat.reduceMul, Nat.reduceSub, Int.reduceToNat, Nat.reduceBEq], by simp (disch := first | (simp only [go_sem, gb0, eq_self]; done) | omega | (simp only [gl1, gl2]; omega)) only [go_sem, ↓reduceIte, Nat.reduceEqDiff, Nat.reduceAdd, Nat.reduceMul, Nat.reduceSub, Int.reduceToNat, Nat.reduceBEq], by simp (disch := first | (simp only [go_sem, gb0, eq_self]; done) | omega | (simp only [gl1, gl2]; omega)) only [go_sem, ↓reduceIte, Nat.reduceEqDiff, Nat.reduceAdd, Nat.reduceMul, Nat.reduceSub, Int.reduceToNat, Nat.reduceBEq, hn], by simp (disch := first | (simp only [go_sem, gb0, eq_self]; done) | omega | (simp only [gl1, gl2]; omega)) only [go_sem, ↓reduceIte, Nat.reduceEqDiff, Nat.reduceAdd, Nat.reduceMul, Nat.reduceSub, Int.reduceToNat, Nat.reduceBEq], by simp (disch := first | (simp only [go_sem, gb0, eq_self]; done) | omega | (simp only [gl1, gl2]; omega)) only [go_sem, ↓reduceIte, Nat.reduceEqDiff, Nat.reduceAdd, Nat.reduceMul, Nat.reduceSub, Int.reduceToNat, Nat.reduceBEq]; decide, by simp (disch := first | (simp only [go_sem, gb0, eq_self]; done) | omega | (simp only [gl1, gl2]; omega)) only [go_sem, ↓reduceIte, Nat.reduceEqDiff, Nat.reduceAdd, Nat.reduceMul, Nat.reduceSub, Int.reduceToNat, Nat.reduceBEq], by simp (disch := first | (simp only [go_sem, gb0, eq_self]; done) | omega | (simp only [gl1, gl2]; omega)) only [go_sem, ↓reduceIte, Nat.reduceEqDiff, Nat.reduceAdd, Nat.reduceMul, Nat.reduceSub, Int.reduceToNat, Nat.reduceBEq]; rfl, .nil, by simp (disch := first | (simp only [go_sem, gb0, eq_self]; done) | omega | (simp only [gl1, gl2]; omega)) only [go_sem, ↓reduceIte, Nat.reduceEqDiff, Nat.reduceAdd, Nat.reduceMul, Nat.reduceSub, Int.reduceToNat, Nat.reduceBEq], .inl ⟨rfl, rfl⟩⟩ ?_
    rintro i st h hi s8 ⟨s1, s2, s5, s7, hnx, b0, b1, v, s6, ov⟩
    by_cases hlt : i < n
    case neg =>
      have hie : i = n := by omega
      subst hie
      have he : vecA (fun k => if k < i then M k i else 0) i = vecA (fun k => M k i) i := vecA_congr fun k hk => if_pos hk
      rw [he] at b1
      simp (disch := first | (simp only [go_sem, gb0, eq_self]; done) | omega | (simp only [gl1, gl2]; omega)) only [go_sem, ↓reduceIte, Nat.reduceEqDiff, Nat.reduceAdd, Nat.reduceMul, Nat.reduceSub, Int.reduceToNat, Nat.reduceBEq, s1, s2, s5, s6, s7, s8, hlt]
      exact ⟨hnx, b1, _, rfl, ov⟩
    have hi1 : i < nx.length := by omega
    have hi1' : (i : Int) < nx.length := by omega
    have hin' : (i : Int) < n := by omega
    have hip : i < pay.length := by omega
    have hip' : (i : Int) < pay.length := by omega
    have hic : i < cost.length := by omega
    have hic' : (i : Int) < cost.length := by omega
    have hpb := C.pb hi1
    have hcb := C.cb hi1
    have hrow := C.row i hi1
    have n1 : ¬ 1 = h.nx := by omega
    have n1' : ¬ h.nx = 1 := by omega
    have n0 : ¬ 0 = h.nx := by omega
    have n0' : ¬ h.nx = 0 := by omega
    obtain ⟨H, hH⟩ : ∃ H, H = h.nx := ⟨_, rfl⟩
    simp (disch := first | (simp only [go_sem, gb0, eq_self]; done) | omega | (simp only [gl1, gl2]; omega)) only [go_sem, ↓reduceIte, Nat.reduceEqDiff, Nat.reduceAdd, Nat.reduceMul, Nat.reduceSub, Int.reduceToNat, Nat.reduceBEq, s1, s2, s5, s6, s7, s8, hlt, hmk, k57, ← hH]
    refine condW_joinB (fun st g => st 1 = LI l ∧ st 2 = .ptr 0 0 ∧ st 5 = I n ∧ st 7 = .sl 1 0 n 1 ∧ st 8 = I i ∧ st 6 = v ∧ st 9 = .sl H 0 n 1 ∧ g.nx = H + 1 ∧ g.bl 0 = some (.cells false false [LLI nx, LI pay, LI cost]) ∧ g.bl 1 = some (.cells false true (vecA (fun k => if k < i + 1 then M k n else 0) n)) ∧ g.bl H = some (.cells false true (vecA (M i) n)) ∧ ∀ id, 2 ≤ id → id < H → g.bl id = h.bl id) ?_ ?_ ?_
    · intro hb
      have hr : ruleB (xOf nx.length l) i = true := by rw [← hbit i hlt]; exact hb
      have e1' : vecA (setV (fun _ => 0) i 1) n = vecA (M i) n := vecA_congr fun j hj => by
        rw [hM]; unfold setV eqM
        rw [hr, if_pos rfl, if_neg (show ¬ j = nx.length by omega)]
      have e2' : vecA (setV (fun k => if k < i then M k n else 0) i (nth pay i)) n = vecA (fun k => if k < i + 1 then M k n else 0) n := vecA_congr fun j hj => by
        unfold setV
        by_cases hji : j = i
        · subst hji; rw [if_pos rfl, if_pos (by omega), hM]; unfold eqM; rw [hr, if_pos rfl, if_pos hn]
        · have : (j < i) ↔ (j < i + 1) := by omega
          simp [hji, this]
      have n1H : ¬ 1 = H := by omega
      have n1H' : ¬ H = 1 := by omega
      have n0H : ¬ 0 = H := by omega
      simp (disch := first | (simp only [go_sem, gb0, eq_self]; done) | omega | (simp only [gl1, gl2]; omega)) only [go_sem, ↓reduceIte, Nat.reduceEqDiff, Nat.reduceAdd, Nat.reduceMul, Nat.reduceSub, Int.reduceToNat, Nat.reduceBEq, s1, s2, s5, s6, s7, s8, hlt, hin', hip, hip', b0, b1, ← hH, n1H, n1H', n0H, e1', e2', List.drop_succ_cons]
      refine fun id h2 h3 => ?_
      rw [if_neg (by omega), if_neg (by omega), if_neg (by omega)]
    · intro hb
      have hr : ruleB (xOf nx.length l) i = false := by rw [← hbit i hlt]; exact hb
      have n1H : ¬ 1 = H := by omega
      have n1H' : ¬ H = 1 := by omega
      have n0H : ¬ 0 = H := by omega
      have n0H' : ¬ H = 0 := by omega
      have hMi : ∀ j, j < n → M i j = (if j = i then 4 else 0) - nth (nth nx i) j := fun j hj => by
        rw [hM]; unfold eqM; rw [hr]; simp [show ¬ j = nx.length by omega]
      simp (disch := first | (simp only [go_sem, gb0, eq_self]; done) | omega | (simp only [gl1, gl2]; omega)) only [go_sem, ↓reduceIte, Nat.reduceEqDiff, Nat.reduceAdd, Nat.reduceMul, Nat.reduceSub, Int.reduceToNat, Nat.reduceBEq, s1, s2, s5, s6, s7, s8, hlt, b0, b1]
      refine WP_cut (fun st g => st 1 = LI l ∧ st 2 = .ptr 0 0 ∧ st 5 = I n ∧ st 7 = .sl 1 0 n 1 ∧ st 8 = I i ∧ st 6 = v ∧ st 9 = .sl H 0 n 1 ∧ g.nx = H + 1 ∧ g.bl 0 = some (.cells false false [LLI nx, LI pay, LI cost]) ∧ g.bl 1 = some (.cells false true (vecA (fun k => if k < i then M k n else 0) n)) ∧ g.bl H = some (.cells false true (vecA (fun k => - nth (nth nx i) k) n)) ∧ ∀ id, 2 ≤ id → id < H → g.bl id = h.bl id) ?_ ?_
      · refine WP_for 10 n (fun j st g => st 1 = LI l ∧ st 2 = .ptr 0 0 ∧ st 5 = I n ∧ st 7 = .sl 1 0 n 1 ∧ st 8 = I i ∧ st 6 = v ∧ st 9 = .sl H 0 n 1 ∧ g.nx = H + 1 ∧ g.bl 0 = some (.cells false false [LLI nx, LI pay, LI cost]) ∧ g.bl 1 = some (.cells false true (vecA (fun k => if k < i then M k n else 0) n)) ∧ g.bl H = some (.cells false true (vecA (fun k => if k < j then - nth (nth nx i) k else 0) n)) ∧ ∀ id, 2 ≤ id → id < H → g.bl id = h.bl id) (by simp (disch := first | (simp only [go_sem, gb0, eq_self]; done) | omega | (simp only [gl1, gl2]; omega)) only [go_sem, ↓reduceIte, Nat.reduceEqDiff, Nat.reduceAdd, Nat.reduceMul, Nat.reduceSub, Int.reduceToNat, Nat.reduceBEq])
          ⟨by simp (disch := first | (simp only [go_sem, gb0, eq_self]; done) | omega | (simp only [gl1, gl2]; omega)) only [go_sem, ↓reduceIte, Nat.reduceEqDiff, Nat.reduceAdd, Nat.reduceMul, Nat.reduceSub, Int.reduceToNat, Nat.reduceBEq, s1], by simp (disch := first | (simp only [go_sem, gb0, eq_self]; done) | omega | (simp only [gl1, gl2]; omega)) only [go_sem, ↓reduceIte, Nat.reduceEqDiff, Nat.reduceAdd, Nat.reduceMul, Nat.reduceSub, Int.reduceToNat, Nat.reduceBEq, s2], by simp (disch := first | (simp only [go_sem, gb0, eq_self]; done) | omega | (simp only [gl1, gl2]; omega)) only [go_sem, ↓reduceIte, Nat.reduceEqDiff, Nat.reduceAdd, Nat.reduceMul, Nat.reduceSub, Int.reduceToNat, Nat.reduceBEq, s5], by simp (disch := first | (simp only [go_sem, gb0, eq_self]; done) | omega | (simp only [gl1, gl2]; omega)) only [go_sem, ↓reduceIte, Nat.reduceEqDiff, Nat.reduceAdd, Nat.reduceMul, Nat.reduceSub, Int.reduceToNat, Nat.reduceBEq, s7], by simp (disch := first | (simp only [go_sem, gb0, eq_self]; done) | omega | (simp only [gl1, gl2]; omega)) only [go_sem, ↓reduceIte, Nat.reduceEqDiff, Nat.reduceAdd, Nat.reduceMul, Nat.reduceSub, Int.reduceToNat, Nat.reduceBEq, s8], by simp (disch := first | (simp only [go_sem, gb0, eq_self]; done) | omega | (simp only [gl1, gl2]; omega)) only [go_sem, ↓reduceIte, Nat.reduceEqDiff, Nat.reduceAdd, Nat.reduceMul, Nat.reduceSub, Int.reduceToNat, Nat.reduceBEq, s6], by simp (disch := first | (simp only [go_sem, gb0, eq_self]; done) | omega | (simp only [gl1, gl2]; omega)) only [go_sem, ↓reduceIte, Nat.reduceEqDiff, Nat.reduceAdd, Nat.reduceMul, Nat.reduceSub, Int.reduceToNat, Nat.reduceBEq], by (rw [hH]; rfl), by simp (disch := first | (simp only [go_sem, gb0, eq_self]; done) | omega | (simp only [gl1, gl2]; omega)) only [go_sem, ↓reduceIte, Nat.reduceEqDiff, Nat.reduceAdd, Nat.reduceMul, Nat.reduceSub, Int.reduceToNat, Nat.reduceBEq, b0, ← hH, n0H], by simp (disch := first | (simp only [go_sem, gb0, eq_self]; done) | omega | (simp only [gl1, gl2]; omega)) only [go_sem, ↓reduceIte, Nat.reduceEqDiff, Nat.reduceAdd, Nat.reduceMul, Nat.reduceSub, Int.reduceToNat, Nat.reduceBEq, b1, ← hH, n1H], by simp (disch := first | (simp only [go_sem, gb0, eq_self]; done) | omega | (simp only [gl1, gl2]; omega)) only [go_sem, ↓reduceIte, Nat.reduceEqDiff, Nat.reduceAdd, Nat.reduceMul, Nat.reduceSub, Int.reduceToNat, Nat.reduceBEq, ← hH]; rfl, fun id h2 h3 => by simp (disch := first | (simp only [go_sem, gb0, eq_self]; done) | omega | (simp only [gl1, gl2]; omega)) only [go_sem, ↓reduceIte, Nat.reduceEqDiff, Nat.reduceAdd, Nat.reduceMul, Nat.reduceSub, Int.reduceToNat, Nat.reduceBEq, ← hH, show ¬ id = H by omega]⟩ ?_
        rintro j st g hj s10 ⟨s1, s2, s5, s7, s8, s6, s9, gn, g0, g1, gH, go⟩
        by_cases hjn : j < n
        case neg =>
          have hje : j = n := by omega
          subst hje
          have he : vecA (fun k => if k < j then - nth (nth nx i) k else 0) j = vecA (fun k => - nth (nth nx i) k) j := vecA_congr fun k hk => if_pos hk
          rw [he] at gH
          simp (disch := first | (simp only [go_sem, gb0, eq_self]; done) | omega | (simp only [gl1, gl2]; omega)) only [go_sem, ↓reduceIte, Nat.reduceEqDiff, Nat.reduceAdd, Nat.reduceMul, Nat.reduceSub, Int.reduceToNat, Nat.reduceBEq, s1, s2, s5, s7, s8, s6, s9, s10, hjn]
          exact ⟨gn, g0, g1, gH, go⟩
        have hjr : j < (nth nx i).length := by omega
        have hjr' : (j : Int) < (nth nx i).length := by omega
        have hjn' : (j : Int) < n := by omega
        have hwb := C.wb hi1 (show j < nx.length by omega)
        have e1' : vecA (setV (fun k => if k < j then - nth (nth nx i) k else 0) j (- nth (nth nx i) j)) n = vecA (fun k => if k < j + 1 then - nth (nth nx i) k else 0) n := vecA_congr fun k hk => by
          unfold setV
          by_cases hkj : k = j
          · subst hkj; rw [if_pos rfl, if_pos (by omega)]
          · have : (k < j) ↔ (k < j + 1) := by omega
            simp [hkj, this]
        have hneg : (0 : Int) - nth (nth nx i) j = - nth (nth nx i) j := by omega
        simp (disch := first | (simp only [go_sem, gb0, eq_self]; done) | omega | (simp only [gl1, gl2]; omega)) only [go_sem, ↓reduceIte, Nat.reduceEqDiff, Nat.reduceAdd, Nat.reduceMul, Nat.reduceSub, Int.reduceToNat, Nat.reduceBEq, s1, s2, s5, s7, s8, s6, s9, s10, hjn, hjn', hi1, hi1', hjr, hjr', g0, gH, hneg, e1']
        rw [ForK_normal]
        refine ⟨hjn, by simp (disch := first | (simp only [go_sem, gb0, eq_self]; done) | omega | (simp only [gl1, gl2]; omega)) only [go_sem, ↓reduceIte, Nat.reduceEqDiff, Nat.reduceAdd, Nat.reduceMul, Nat.reduceSub, Int.reduceToNat, Nat.reduceBEq, s10], by simp (disch := first | (simp only [go_sem, gb0, eq_self]; done) | omega | (simp only [gl1, gl2]; omega)) only [go_sem, ↓reduceIte, Nat.reduceEqDiff, Nat.reduceAdd, Nat.reduceMul, Nat.reduceSub, Int.reduceToNat, Nat.reduceBEq, s1], by simp (disch := first | (simp only [go_sem, gb0, eq_self]; done) | omega | (simp only [gl1, gl2]; omega)) only [go_sem, ↓reduceIte, Nat.reduceEqDiff, Nat.reduceAdd, Nat.reduceMul, Nat.reduceSub, Int.reduceToNat, Nat.reduceBEq, s2], by simp (disch := first | (simp only [go_sem, gb0, eq_self]; done) | omega | (simp only [gl1, gl2]; omega)) only [go_sem, ↓reduceIte, Nat.reduceEqDiff, Nat.reduceAdd, Nat.reduceMul, Nat.reduceSub, Int.reduceToNat, Nat.reduceBEq, s5], by simp (disch := first | (simp only [go_sem, gb0, eq_self]; done) | omega | (simp only [gl1, gl2]; omega)) only [go_sem, ↓reduceIte, Nat.reduceEqDiff, Nat.reduceAdd, Nat.reduceMul, Nat.reduceSub, Int.reduceToNat, Nat.reduceBEq, s7], by simp (disch := first | (simp only [go_sem, gb0, eq_self]; done) | omega | (simp only [gl1, gl2]; omega)) only [go_sem, ↓reduceIte, Nat.reduceEqDiff, Nat.reduceAdd, Nat.reduceMul, Nat.reduceSub, Int.reduceToNat, Nat.reduceBEq, s8], by simp (disch := first | (simp only [go_sem, gb0, eq_self]; done) | omega | (simp only [gl1, gl2]; omega)) only [go_sem, ↓reduceIte, Nat.reduceEqDiff, Nat.reduceAdd, Nat.reduceMul, Nat.reduceSub, Int.reduceToNat, Nat.reduceBEq, s6], by simp (disch := first | (simp only [go_sem, gb0, eq_self]; done) | omega | (simp only [gl1, gl2]; omega)) only [go_sem, ↓reduceIte, Nat.reduceEqDiff, Nat.reduceAdd, Nat.reduceMul, Nat.reduceSub, Int.reduceToNat, Nat.reduceBEq, s9], by simp (disch := first | (simp only [go_sem, gb0, eq_self]; done) | omega | (simp only [gl1, gl2]; omega)) only [go_sem, ↓reduceIte, Nat.reduceEqDiff, Nat.reduceAdd, Nat.reduceMul, Nat.reduceSub, Int.reduceToNat, Nat.reduceBEq, gn], by simp (disch := first | (simp only [go_sem, gb0, eq_self]; done) | omega | (simp only [gl1, gl2]; omega)) only [go_sem, ↓reduceIte, Nat.reduceEqDiff, Nat.reduceAdd, Nat.reduceMul, Nat.reduceSub, Int.reduceToNat, Nat.reduceBEq, g0, n0H], by simp (disch := first | (simp only [go_sem, gb0, eq_self]; done) | omega | (simp only [gl1, gl2]; omega)) only [go_sem, ↓reduceIte, Nat.reduceEqDiff, Nat.reduceAdd, Nat.reduceMul, Nat.reduceSub, Int.reduceToNat, Nat.reduceBEq, g1, n1H], by simp (disch := first | (simp only [go_sem, gb0, eq_self]; done) | omega | (simp only [gl1, gl2]; omega)) only [go_sem, ↓reduceIte, Nat.reduceEqDiff, Nat.reduceAdd, Nat.reduceMul, Nat.reduceSub, Int.reduceToNat, Nat.reduceBEq], fun id h2 h3 => ?_⟩
        simp (disch := first | (simp only [go_sem, gb0, eq_self]; done) | omega | (simp only [gl1, gl2]; omega)) only [go_sem, ↓reduceIte, Nat.reduceEqDiff, Nat.reduceAdd, Nat.reduceMul, Nat.reduceSub, Int.reduceToNat, Nat.reduceBEq, show ¬ id = H by omega]
        exact go id h2 h3
      · rintro st g ⟨s1, s2, s5, s7, s8, s6, s9, gn, g0, g1, gH, go⟩
        have hwb := C.wb hi1 hi1
        have e1' : vecA (setV (fun k => - nth (nth nx i) k) i (- nth (nth nx i) i + 4)) n = vecA (M i) n := vecA_congr fun k hk => by
          unfold setV
          rw [hMi k hk]
          by_cases hki : k = i
          · rw [if_pos hki, if_pos hki, hki]
            show - nth (nth nx i) i + 4 = 4 - nth (nth nx i) i
            generalize nth (nth nx i) i = z
            omega
          · rw [if_neg hki, if_neg hki]
            show - nth (nth nx i) k = 0 - nth (nth nx i) k
            omega
        have e2' : vecA (setV (fun k => if k < i then M k n else 0) i (-4 * nth cost i)) n = vecA (fun k => if k < i + 1 then M k n else 0) n := vecA_congr fun j hj => by
          unfold setV
          by_cases hji : j = i
          · subst hji; rw [if_pos rfl, if_pos (by omega), hM]; unfold eqM; rw [hr]; simp [hn]
          · have : (j < i) ↔ (j < i + 1) := by omega
            simp [hji, this]
        simp (disch := first | (simp only [go_sem, gb0, eq_self]; done) | omega | (simp only [gl1, gl2]; omega)) only [go_sem, ↓reduceIte, Nat.reduceEqDiff, Nat.reduceAdd, Nat.reduceMul, Nat.reduceSub, Int.reduceToNat, Nat.reduceBEq, s1, s2, s5, s7, s8, s6, s9, hlt, hin', hic, hic', g0, g1, gH, n1H, n1H', n0H, n0H', e1', e2', List.drop_succ_cons]
        refine ⟨gn, fun id h2 h3 => ?_⟩
        rw [if_neg (by omega), if_neg (by omega)]
        exact go id h2 h3
    · rintro st g ⟨s1, s2, s5, s7, s8, s6, s9, gn, g0, g1, gH, go⟩
      have hse := seal_vec (h := g) gH
      have ov2 : OwnGe 2 (e1 LI) 1 (g.put H (some (.cells true true (vecA (M i) n)))) v ((List.range i).map R) := ov.mono (by show h.nx ≤ g.nx; omega) fun id h2 h3 => by
        rw [put_bl, if_neg (by omega)]; exact go id h2 (by omega)
      have hRi : (List.range n).map (M i) = R i := by rw [hR]
      rw [hRi] at hse
      have hbs := bsB_one (P := Try.prog) 23 _ (LI (R i)) .nil _ isz23 izero23 rfl rfl rfl hse rfl rfl (pure_L _)
      have happ := app_one (P := Try.prog) ov2.own 23 24 .nil (R i) isz23 ibytes23 izero23 rfl (by simp; omega) (by simp; omega)
      have l0 : (appH (g.put H (some (.cells true true (vecA (M i) n)))) v (((List.range i).map R ++ [R i]).flatMap (e1 LI))).bl 0 = some (.cells false false [LLI nx, LI pay, LI cost]) := by
        rw [ov2.low (by decide) (by show 0 < g.nx; omega), put_bl, if_neg (by omega)]; exact g0
      have l1 : (appH (g.put H (some (.cells true true (vecA (M i) n)))) v (((List.range i).map R ++ [R i]).flatMap (e1 LI))).bl 1 = some (.cells false true (vecA (fun k => if k < i + 1 then M k n else 0) n)) := by
        rw [ov2.low (by decide) (by show 1 < g.nx; omega), put_bl, if_neg (by omega)]; exact g1
      have ln : (appH (g.put H (some (.cells true true (vecA (M i) n)))) v (((List.range i).map R ++ [R i]).flatMap (e1 LI))).nx = H + 2 := by rw [appH_nx]; show g.nx + 1 = _; omega
      have lo : OwnGe 2 (e1 LI) 1 (appH (g.put H (some (.cells true true (vecA (M i) n)))) v (((List.range i).map R ++ [R i]).flatMap (e1 LI))) (appV (g.put H (some (.cells true true (vecA (M i) n)))) ((List.range i).map R ++ [R i]).length 1) ((List.range (i + 1)).map R) := by
        rw [← rows_snoc]
        exact OwnGe.app _ (by show 2 ≤ g.nx; omega) _
      generalize appH (g.put H (some (.cells true true (vecA (M i) n)))) v (((List.range i).map R ++ [R i]).flatMap (e1 LI)) = G at *
      generalize appV (g.put H (some (.cells true true (vecA (M i) n)))) ((List.range i).map R ++ [R i]).length 1 = u at *
      simp (disch := first | (simp only [go_sem, gb0, eq_self]; done) | omega | (simp only [gl1, gl2]; omega)) only [go_sem, ↓reduceIte, Nat.reduceEqDiff, Nat.reduceAdd, Nat.reduceMul, Nat.reduceSub, Int.reduceToNat, Nat.reduceBEq, s1, s2, s5, s7, s8, s6, s9, hbs, happ]
      rw [ForK_normal]
      exact ⟨hlt, by simp (disch := first | (simp only [go_sem, gb0, eq_self]; done) | omega | (simp only [gl1, gl2]; omega)) only [go_sem, ↓reduceIte, Nat.reduceEqDiff, Nat.reduceAdd, Nat.reduceMul, Nat.reduceSub, Int.reduceToNat, Nat.reduceBEq, s8], by simp (disch := first | (simp only [go_sem, gb0, eq_self]; done) | omega | (simp only [gl1, gl2]; omega)) only [go_sem, ↓reduceIte, Nat.reduceEqDiff, Nat.reduceAdd, Nat.reduceMul, Nat.reduceSub, Int.reduceToNat, Nat.reduceBEq, s1], by simp (disch := first | (simp only [go_sem, gb0, eq_self]; done) | omega | (simp only [gl1, gl2]; omega)) only [go_sem, ↓reduceIte, Nat.reduceEqDiff, Nat.reduceAdd, Nat.reduceMul, Nat.reduceSub, Int.reduceToNat, Nat.reduceBEq, s2], by simp (disch := first | (simp only [go_sem, gb0, eq_self]; done) | omega | (simp only [gl1, gl2]; omega)) only [go_sem, ↓reduceIte, Nat.reduceEqDiff, Nat.reduceAdd, Nat.reduceMul, Nat.reduceSub, Int.reduceToNat, Nat.reduceBEq, s5], by simp (disch := first | (simp only [go_sem, gb0, eq_self]; done) | omega | (simp only [gl1, gl2]; omega)) only [go_sem, ↓reduceIte, Nat.reduceEqDiff, Nat.reduceAdd, Nat.reduceMul, Nat.reduceSub, Int.reduceToNat, Nat.reduceBEq, s7], by omega, l0, l1, _, by simp (disch := first | (simp only [go_sem, gb0, eq_self]; done) | omega | (simp only [gl1, gl2]; omega)) only [go_sem, ↓reduceIte, Nat.reduceEqDiff, Nat.reduceAdd, Nat.reduceMul, Nat.reduceSub, Int.reduceToNat, Nat.reduceBEq], lo⟩
  · rintro st h ⟨s2, s5, s7, hnx, b1, v, s6, ov⟩
    have hRn : ∀ i, i < n → nth ((List.range n).map R) i = R i := fun i hi => nth_map_range _ _ _ hi
    have hRl : ∀ i, i < n → (R i).length = n := fun i hi => by rw [hR]; simp
    have hRv : ∀ i j, i < n → j < n → nth (R i) j = M i j := fun i j hi hj => by rw [hR]; exact nth_map_range _ _ _ hj
    have S := sys_of C.chn hs
    have hM' : eqM nx.length (fun i j => nth (nth nx i) j) (fun i => nth pay i) (fun i => nth cost i) (ruleB (xOf nx.length l)) = M := hM.symm
    rw [hM', ← hn] at S
    have hdne := S.det_ne (by omega)
    have hdB := S.dB
    have hbE := bE6 hn6
    rw [← hn] at hbE
    have hsq : sqM ((List.range n).map R) n := ⟨by simp, fun i hi => by rw [hRn i hi, hRl i hi], fun i hi => by
      have h1 := S.B i hi
      have h2 := sumN_congr (f := fun c => absI (nth (nth ((List.range n).map R) i) c)) (g := fun c => absI (M i c)) (n := n) fun c hc => by rw [hRn i hi, hRv i c hi hc]
      rw [h2]; omega⟩
    have c58 := f58_con n (by omega) _ hsq
    rw [det_congr (N := M) fun i j hi hj => by show nth (nth _ i) j = _; rw [hRn i hi, hRv i j hi hj]] at c58
    have k58 := fun h h' K => ConW_num (h := h) (h' := h') (K := K) c58 rfl
    obtain ⟨g0, hse, _⟩ := sealA_Own ov.own
    -- the list of rows, from now on
    obtain ⟨A, hA2, hv, hAn, bA⟩ : ∃ A, 2 ≤ A ∧ v = .sl A 0 n 1 ∧ A < h.nx ∧ h.bl A = some (.cells false true (((List.range n).map R).flatMap (e1 LI))) := by
      rcases ov with ⟨_, e⟩ | ⟨A, h1, h2, h3, h4⟩
      · have := congrArg List.length e; simp at this; omega
      · exact ⟨A, h1, by rw [h2]; simp, h3, h4⟩
    obtain ⟨D, hD⟩ : ∃ D, D = det n M := ⟨_, rfl⟩
    rw [← hD] at k58 hdne hdB
    simp (disch := first | (simp only [go_sem, gb0, eq_self]; done) | omega | (simp only [gl1, gl2]; omega)) only [go_sem, ↓reduceIte, Nat.reduceEqDiff, Nat.reduceAdd, Nat.reduceMul, Nat.reduceSub, Int.reduceToNat, Nat.reduceBEq, s2, s5, s6, s7, hse, k58]
    obtain ⟨fr, hfr⟩ : ∃ fr : Nat → Int × Int, fr = fun i => rdP (VN nx.length (wF nx) (pF pay) (pF cost) (ruleB (xOf nx.length l)) i) (DN nx.length (wF nx) (pF pay) (pF cost) (ruleB (xOf nx.length l))) := ⟨_, rfl⟩
    have hval : valL nx pay cost (xOf nx.length l) = (List.range n).map fr := by rw [hfr, valL, hn]
    obtain ⟨B, hB⟩ : ∃ B, B = h.nx := ⟨_, rfl⟩
    refine WP_cut (fun st h => ∃ v, st 12 = v ∧ Go.Am.Own eP 2 h v ((List.range n).map fr)) ?_ ?_
    · refine WP_for 13 n (fun k st h => st 5 = I n ∧ st 6 = .sl A 0 n 1 ∧ st 7 = .sl 1 0 n 1 ∧ st 11 = I D ∧ B ≤ h.nx ∧ h.bl 1 = some (.cells false true (vecA (fun i => M i n) n)) ∧ h.bl A = some (.cells false true (((List.range n).map R).flatMap (e1 LI))) ∧ ∃ u, st 12 = u ∧ OwnGe B eP 2 h u ((List.range k).map fr)) (by simp (disch := first | (simp only [go_sem, gb0, eq_self]; done) | omega | (simp only [gl1, gl2]; omega)) only [go_sem, ↓reduceIte, Nat.reduceEqDiff, Nat.reduceAdd, Nat.reduceMul, Nat.reduceSub, Int.reduceToNat, Nat.reduceBEq])
        ⟨by simp (disch := first | (simp only [go_sem, gb0, eq_self]; done) | omega | (simp only [gl1, gl2]; omega)) only [go_sem, ↓reduceIte, Nat.reduceEqDiff, Nat.reduceAdd, Nat.reduceMul, Nat.reduceSub, Int.reduceToNat, Nat.reduceBEq, s5], by simp (disch := first | (simp only [go_sem, gb0, eq_self]; done) | omega | (simp only [gl1, gl2]; omega)) only [go_sem, ↓reduceIte, Nat.reduceEqDiff, Nat.reduceAdd, Nat.reduceMul, Nat.reduceSub, Int.reduceToNat, Nat.reduceBEq, s6, hv], by simp (disch := first | (simp only [go_sem, gb0, eq_self]; done) | omega | (simp only [gl1, gl2]; omega)) only [go_sem, ↓reduceIte, Nat.reduceEqDiff, Nat.reduceAdd, Nat.reduceMul, Nat.reduceSub, Int.reduceToNat, Nat.reduceBEq, s7], by simp (disch := first | (simp only [go_sem, gb0, eq_self]; done) | omega | (simp only [gl1, gl2]; omega)) only [go_sem, ↓reduceIte, Nat.reduceEqDiff, Nat.reduceAdd, Nat.reduceMul, Nat.reduceSub, Int.reduceToNat, Nat.reduceBEq], by omega, b1, bA, .nil, by simp (disch := first | (simp only [go_sem, gb0, eq_self]; done) | omega | (simp only [gl1, gl2]; omega)) only [go_sem, ↓reduceIte, Nat.reduceEqDiff, Nat.reduceAdd, Nat.reduceMul, Nat.reduceSub, Int.reduceToNat, Nat.reduceBEq], .inl ⟨rfl, rfl⟩⟩ ?_
      rintro k st h hk s13 ⟨s5, s6, s7, s11, hBn, b1, bA, u, s12, ou⟩
      by_cases hkn : k < n
      case neg =>
        have hke : k = n := by omega
        subst hke
        simp (disch := first | (simp only [go_sem, gb0, eq_self]; done) | omega | (simp only [gl1, gl2]; omega)) only [go_sem, ↓reduceIte, Nat.reduceEqDiff, Nat.reduceAdd, Nat.reduceMul, Nat.reduceSub, Int.reduceToNat, Nat.reduceBEq, s5, s6, s7, s11, s12, s13, hkn]
        exact ⟨_, rfl, ou.own⟩
      have hkn' : (k : Int) < n := by omega
      simp (disch := first | (simp only [go_sem, gb0, eq_self]; done) | omega | (simp only [gl1, gl2]; omega)) only [go_sem, ↓reduceIte, Nat.reduceEqDiff, Nat.reduceAdd, Nat.reduceMul, Nat.reduceSub, Int.reduceToNat, Nat.reduceBEq, s5, s6, s7, s11, s12, s13, hkn]
      -- the matrix with a column put in
      obtain ⟨Q, hQ⟩ : ∃ Q : Nat → List Int, Q = fun i => (List.range n).map (setV (M i) k (M i n)) := ⟨_, rfl⟩
      obtain ⟨B2, hB2⟩ : ∃ B2, B2 = h.nx := ⟨_, rfl⟩
      refine WP_cut (fun st g => st 5 = I n ∧ st 6 = .sl A 0 n 1 ∧ st 7 = .sl 1 0 n 1 ∧ st 11 = I D ∧ st 12 = u ∧ st 13 = I k ∧ B2 ≤ g.nx ∧ (∀ id, id < B2 → g.bl id = h.bl id) ∧ ∃ y, st 14 = y ∧ OwnGe B2 (e1 LI) 1 g y ((List.range n).map Q)) ?_ ?_
      · refine WP_for 15 n (fun i st g => st 5 = I n ∧ st 6 = .sl A 0 n 1 ∧ st 7 = .sl 1 0 n 1 ∧ st 11 = I D ∧ st 12 = u ∧ st 13 = I k ∧ B2 ≤ g.nx ∧ (∀ id, id < B2 → g.bl id = h.bl id) ∧ ∃ y, st 14 = y ∧ OwnGe B2 (e1 LI) 1 g y ((List.range i).map Q)) (by simp (disch := first | (simp only [go_sem, gb0, eq_self]; done) | omega | (simp only [gl1, gl2]; omega)) only [go_sem, ↓reduceIte, Nat.reduceEqDiff, Nat.reduceAdd, Nat.reduceMul, Nat.reduceSub, Int.reduceToNat, Nat.reduceBEq])
          ⟨by simp (disch := first | (simp only [go_sem, gb0, eq_self]; done) | omega | (simp only [gl1, gl2]; omega)) only [go_sem, ↓reduceIte, Nat.reduceEqDiff, Nat.reduceAdd, Nat.reduceMul, Nat.reduceSub, Int.reduceToNat, Nat.reduceBEq, s5], by simp (disch := first | (simp only [go_sem, gb0, eq_self]; done) | omega | (simp only [gl1, gl2]; omega)) only [go_sem, ↓reduceIte, Nat.reduceEqDiff, Nat.reduceAdd, Nat.reduceMul, Nat.reduceSub, Int.reduceToNat, Nat.reduceBEq, s6], by simp (disch := first | (simp only [go_sem, gb0, eq_self]; done) | omega | (simp only [gl1, gl2]; omega)) only [go_sem, ↓reduceIte, Nat.reduceEqDiff, Nat.reduceAdd, Nat.reduceMul, Nat.reduceSub, Int.reduceToNat, Nat.reduceBEq, s7], by simp (disch := first | (simp only [go_sem, gb0, eq_self]; done) | omega | (simp only [gl1, gl2]; omega)) only [go_sem, ↓reduceIte, Nat.reduceEqDiff, Nat.reduceAdd, Nat.reduceMul, Nat.reduceSub, Int.reduceToNat, Nat.reduceBEq, s11], by simp (disch := first | (simp only [go_sem, gb0, eq_self]; done) | omega | (simp only [gl1, gl2]; omega)) only [go_sem, ↓reduceIte, Nat.reduceEqDiff, Nat.reduceAdd, Nat.reduceMul, Nat.reduceSub, Int.reduceToNat, Nat.reduceBEq, s12], by simp (disch := first | (simp only [go_sem, gb0, eq_self]; done) | omega | (simp only [gl1, gl2]; omega)) only [go_sem, ↓reduceIte, Nat.reduceEqDiff, Nat.reduceAdd, Nat.reduceMul, Nat.reduceSub, Int.reduceToNat, Nat.reduceBEq, s13], by omega, fun _ _ => rfl, .nil, by simp (disch := first | (simp only [go_sem, gb0, eq_self]; done) | omega | (simp only [gl1, gl2]; omega)) only [go_sem, ↓reduceIte, Nat.reduceEqDiff, Nat.reduceAdd, Nat.reduceMul, Nat.reduceSub, Int.reduceToNat, Nat.reduceBEq], .inl ⟨rfl, rfl⟩⟩ ?_
        rintro i st g hi s15 ⟨s5, s6, s7, s11, s12, s13, hgn, hgo, y, s14, oy⟩
        by_cases hin : i < n
        case neg =>
          have hie : i = n := by omega
          subst hie
          simp (disch := first | (simp only [go_sem, gb0, eq_self]; done) | omega | (simp only [gl1, gl2]; omega)) only [go_sem, ↓reduceIte, Nat.reduceEqDiff, Nat.reduceAdd, Nat.reduceMul, Nat.reduceSub, Int.reduceToNat, Nat.reduceBEq, s5, s6, s7, s11, s12, s13, s14, s15, hin]
          exact ⟨hgn, hgo, _, rfl, oy⟩
        have hin' : (i : Int) < n := by omega
        have gA : g.bl A = some (.cells false true (((List.range n).map R).flatMap (e1 LI))) := (hgo A (by omega)).trans bA
        have g1 : g.bl 1 = some (.cells false true (vecA (fun i => M i n) n)) := (hgo 1 (by omega)).trans b1
        have hgA : (((List.range n).map R).flatMap (e1 LI))[i]? = some (LI (R i)) := by
          rw [flat_get _ _ _ (by simp; omega), hRn i hin]
        have happ1 := app_nil (P := Try.prog) (h := g) (f := e1 I) 3 8 (I 0) (LI (R i)) (R i) isz3 ibytes3 izero3 rfl (cellsOf_L _ _) (lenA_L _ _) (by rw [hRl i hin]; omega) (by rw [hRl i hin]; omega)
        have hRf : (R i).flatMap (e1 I) = vecA (M i) n := by rw [hR, vecA_flat]
        rw [hRl i hin, hRf] at happ1
        obtain ⟨J, hJ⟩ : ∃ J, J = g.nx := ⟨_, rfl⟩
        have nJ1 : ¬ 1 = J := by omega
        have nJA : ¬ A = J := by omega
        -- the row once it is sealed
        obtain ⟨G, hG⟩ : ∃ G, G = (g.alloc (.cells false true (vecA (M i) n))).put J (some (.cells false true (vecA (setV (M i) k (M i n)) n))) := ⟨_, rfl⟩
        have hGJ : G.bl J = some (.cells false true (vecA (setV (M i) k (M i n)) n)) := by rw [hG, put_bl, if_pos rfl]
        have hGn : G.nx = J + 1 := by rw [hG, hJ]; rfl
        have hGo : ∀ id, id < J → G.bl id = g.bl id := fun id hid => by rw [hG, put_bl, if_neg (by omega), alloc_bl, if_neg (by omega)]
        have hse := seal_vec (h := G) hGJ
        have hQi : (List.range n).map (setV (M i) k (M i n)) = Q i := by rw [hQ]
        rw [hQi] at hse
        obtain ⟨G2, hG2⟩ : ∃ G2, G2 = G.put J (some (.cells true true (vecA (setV (M i) k (M i n)) n))) := ⟨_, rfl⟩
        rw [← hG2] at hse
        have hG2n : G2.nx = J + 1 := by rw [hG2]; exact hGn
        have hG2o : ∀ id, id < J → G2.bl id = g.bl id := fun id hid => by rw [hG2, put_bl, if_neg (by omega)]; exact hGo id hid
        have oy2 : OwnGe B2 (e1 LI) 1 G2 y ((List.range i).map Q) := oy.mono (by omega) fun id _ h3 => hG2o id (by omega)
        have hbs := bsB_one (P := Try.prog) 23 (.sl J 0 n 1) (LI (Q i)) .nil G2 isz23 izero23 rfl rfl rfl hse rfl rfl (pure_L _)
        have happ := app_one (P := Try.prog) oy2.own 23 24 .nil (Q i) isz23 ibytes23 izero23 rfl (by simp; omega) (by simp; omega)
        have ln : (appH G2 y (((List.range i).map Q ++ [Q i]).flatMap (e1 LI))).nx = J + 2 := by rw [appH_nx]; omega
        have lo : OwnGe B2 (e1 LI) 1 (appH G2 y (((List.range i).map Q ++ [Q i]).flatMap (e1 LI))) (appV G2 ((List.range i).map Q ++ [Q i]).length 1) ((List.range (i + 1)).map Q) := by
          rw [← rows_snoc]
          exact OwnGe.app _ (by omega) _
        have ll : ∀ id, id < B2 → (appH G2 y (((List.range i).map Q ++ [Q i]).flatMap (e1 LI))).bl id = h.bl id := fun id hid => by
          rw [oy2.low hid (by omega), hG2o id (by omega)]; exact hgo id hid
        generalize appH G2 y (((List.range i).map Q ++ [Q i]).flatMap (e1 LI)) = G3 at *
        generalize appV G2 ((List.range i).map Q ++ [Q i]).length 1 = y3 at *
        simp (disch := first | (simp only [go_sem, gb0, eq_self]; done) | omega | (simp only [gl1, gl2]; omega)) only [go_sem, ↓reduceIte, Nat.reduceEqDiff, Nat.reduceAdd, Nat.reduceMul, Nat.reduceSub, Int.reduceToNat, Nat.reduceBEq, s5, s6, s7, s11, s12, s13, s14, s15, hin, hin', hkn', gA, g1, hgA, happ1, ← hJ, nJ1, nJA, ← hG, hbs, happ]
        rw [ForK_normal]
        exact ⟨hin, by simp (disch := first | (simp only [go_sem, gb0, eq_self]; done) | omega | (simp only [gl1, gl2]; omega)) only [go_sem, ↓reduceIte, Nat.reduceEqDiff, Nat.reduceAdd, Nat.reduceMul, Nat.reduceSub, Int.reduceToNat, Nat.reduceBEq, s15], by simp (disch := first | (simp only [go_sem, gb0, eq_self]; done) | omega | (simp only [gl1, gl2]; omega)) only [go_sem, ↓reduceIte, Nat.reduceEqDiff, Nat.reduceAdd, Nat.reduceMul, Nat.reduceSub, Int.reduceToNat, Nat.reduceBEq, s5], by simp (disch := first | (simp only [go_sem, gb0, eq_self]; done) | omega | (simp only [gl1, gl2]; omega)) only [go_sem, ↓reduceIte, Nat.reduceEqDiff, Nat.reduceAdd, Nat.reduceMul, Nat.reduceSub, Int.reduceToNat, Nat.reduceBEq, s6], by simp (disch := first | (simp only [go_sem, gb0, eq_self]; done) | omega | (simp only [gl1, gl2]; omega)) only [go_sem, ↓reduceIte, Nat.reduceEqDiff, Nat.reduceAdd, Nat.reduceMul, Nat.reduceSub, Int.reduceToNat, Nat.reduceBEq, s7], by simp (disch := first | (simp only [go_sem, gb0, eq_self]; done) | omega | (simp only [gl1, gl2]; omega)) only [go_sem, ↓reduceIte, Nat.reduceEqDiff, Nat.reduceAdd, Nat.reduceMul, Nat.reduceSub, Int.reduceToNat, Nat.reduceBEq, s11], by simp (disch := first | (simp only [go_sem, gb0, eq_self]; done) | omega | (simp only [gl1, gl2]; omega)) only [go_sem, ↓reduceIte, Nat.reduceEqDiff, Nat.reduceAdd, Nat.reduceMul, Nat.reduceSub, Int.reduceToNat, Nat.reduceBEq, s12], by simp (disch := first | (simp only [go_sem, gb0, eq_self]; done) | omega | (simp only [gl1, gl2]; omega)) only [go_sem, ↓reduceIte, Nat.reduceEqDiff, Nat.reduceAdd, Nat.reduceMul, Nat.reduceSub, Int.reduceToNat, Nat.reduceBEq, s13], by omega, ll, _, by simp (disch := first | (simp only [go_sem, gb0, eq_self]; done) | omega | (simp only [gl1, gl2]; omega)) only [go_sem, ↓reduceIte, Nat.reduceEqDiff, Nat.reduceAdd, Nat.reduceMul, Nat.reduceSub, Int.reduceToNat, Nat.reduceBEq], lo⟩
      · rintro st g ⟨s5, s6, s7, s11, s12, s13, hgn, hgo, y, s14, oy⟩
        obtain ⟨gs, hse2, _⟩ := sealA_Own oy.own
        have hQn : ∀ i, i < n → nth ((List.range n).map Q) i = Q i := fun i hi => nth_map_range _ _ _ hi
        have hQv : ∀ i j, i < n → j < n → nth (Q i) j = setV (M i) k (M i n) j := fun i j hi hj => by rw [hQ]; exact nth_map_range _ _ _ hj
        have hsq2 : sqM ((List.range n).map Q) n := ⟨by simp, fun i hi => by rw [hQn i hi, hQ]; simp, fun i hi => by
          have h1 := S.B i hi
          have h3 := S.C i hi
          have h2 := sumN_congr (f := fun c => absI (nth (nth ((List.range n).map Q) i) c)) (g := fun c => absI (setV (M i) k (M i n) c)) (n := n) fun c hc => by rw [hQn i hi, hQv i c hi hc]
          have h4 : sumN (fun c => absI (setV (M i) k (M i n) c)) n ≤ sumN (fun c => absI (M i c) + (if c = k then absI (M i n) else 0)) n := sumN_le fun c hc => by
            unfold setV
            have := absI_nonneg (M i c)
            by_cases hck : c = k
            · rw [if_pos hck, if_pos hck]; omega
            · rw [if_neg hck, if_neg hck]; omega
          rw [sumN_add, sumN_single hkn fun c hc hne => if_neg hne, if_pos rfl] at h4
          rw [h2]; omega⟩
        have c58b := f58_con n (by omega) _ hsq2
        have hdk : det n (matL ((List.range n).map Q)) = solV n M k := det_congr fun i j hi hj => by
          show nth (nth _ i) j = _
          rw [hQn i hi, hQv i j hi hj]; rfl
        rw [hdk] at c58b
        have k58b := fun h h' K => ConW_num (h := h) (h' := h') (K := K) c58b rfl
        have hsB := S.solB hkn
        have hbC := bC6 hn6
        rw [← hn] at hbC
        have k53' := fun h h' K => k53 (h := h) (h' := h') (K := K) (solV n M k) D (by simp only [big]; omega) (by simp only [big]; omega) (by rw [hD] at hdne ⊢; exact hdne)
        have hfk : rdP (solV n M k) D = fr k := by
          rw [hfr]
          show _ = rdP (VN nx.length (wF nx) (pF pay) (pF cost) (ruleB (xOf nx.length l)) k) (DN nx.length (wF nx) (pF pay) (pF cost) (ruleB (xOf nx.length l)))
          unfold VN DN absI
          rw [← hM, ← hn, ← hD]
          by_cases hneg : D < 0
          · rw [if_pos hneg, show ((D.natAbs : Nat) : Int) = -D by omega, rdP_neg (by omega)]
          · rw [if_neg hneg, show ((D.natAbs : Nat) : Int) = D by omega]
        rw [hfk] at k53'
        have hbs2 := fun h => bsB_pair (P := Try.prog) (h := h) 37 (fr k).1 (fr k).2 0 0 isz37 izero37
        have ou2 : OwnGe B eP 2 g u ((List.range k).map fr) := ou.mono (by omega) fun id _ h3 => hgo id (by omega)
        have happ2 := app_pair (P := Try.prog) ou2.own 37 16 (.agg [I 0, I 0]) (fr k).1 (fr k).2 isz37 ibytes37 izero37 rfl (by simp; omega) (by simp; omega)
        have lb1 : (appH g u (((List.range k).map fr ++ [((fr k).1, (fr k).2)]).flatMap eP)).bl 1 = some (.cells false true (vecA (fun i => M i n) n)) := by
          rw [ou2.low (by omega) (by omega), hgo 1 (by omega)]; exact b1
        have lbA : (appH g u (((List.range k).map fr ++ [((fr k).1, (fr k).2)]).flatMap eP)).bl A = some (.cells false true (((List.range n).map R).flatMap (e1 LI))) := by
          rw [ou2.low (by omega) (by omega), hgo A (by omega)]; exact bA
        have lbn : B ≤ (appH g u (((List.range k).map fr ++ [((fr k).1, (fr k).2)]).flatMap eP)).nx := by rw [appH_nx]; omega
        have lbo : OwnGe B eP 2 (appH g u (((List.range k).map fr ++ [((fr k).1, (fr k).2)]).flatMap eP)) (appV g ((List.range k).map fr ++ [((fr k).1, (fr k).2)]).length 2) ((List.range (k + 1)).map fr) := by
          rw [← rows_snoc]
          exact OwnGe.app _ (by omega) _
        generalize appH g u (((List.range k).map fr ++ [((fr k).1, (fr k).2)]).flatMap eP) = G3 at *
        generalize appV g ((List.range k).map fr ++ [((fr k).1, (fr k).2)]).length 2 = u3 at *
        simp (disch := first | (simp only [go_sem, gb0, eq_self]; done) | omega | (simp only [gl1, gl2]; omega)) only [go_sem, ↓reduceIte, Nat.reduceEqDiff, Nat.reduceAdd, Nat.reduceMul, Nat.reduceSub, Int.reduceToNat, Nat.reduceBEq, s5, s6, s7, s11, s12, s13, s14, hse2, k58b, k53', hbs2, happ2]
        rw [ForK_normal]
        exact ⟨hkn, by simp (disch := first | (simp only [go_sem, gb0, eq_self]; done) | omega | (simp only [gl1, gl2]; omega)) only [go_sem, ↓reduceIte, Nat.reduceEqDiff, Nat.reduceAdd, Nat.reduceMul, Nat.reduceSub, Int.reduceToNat, Nat.reduceBEq, s13], by simp (disch := first | (simp only [go_sem, gb0, eq_self]; done) | omega | (simp only [gl1, gl2]; omega)) only [go_sem, ↓reduceIte, Nat.reduceEqDiff, Nat.reduceAdd, Nat.reduceMul, Nat.reduceSub, Int.reduceToNat, Nat.reduceBEq, s5], by simp (disch := first | (simp only [go_sem, gb0, eq_self]; done) | omega | (simp only [gl1, gl2]; omega)) only [go_sem, ↓reduceIte, Nat.reduceEqDiff, Nat.reduceAdd, Nat.reduceMul, Nat.reduceSub, Int.reduceToNat, Nat.reduceBEq, s6], by simp (disch := first | (simp only [go_sem, gb0, eq_self]; done) | omega | (simp only [gl1, gl2]; omega)) only [go_sem, ↓reduceIte, Nat.reduceEqDiff, Nat.reduceAdd, Nat.reduceMul, Nat.reduceSub, Int.reduceToNat, Nat.reduceBEq, s7], by simp (disch := first | (simp only [go_sem, gb0, eq_self]; done) | omega | (simp only [gl1, gl2]; omega)) only [go_sem, ↓reduceIte, Nat.reduceEqDiff, Nat.reduceAdd, Nat.reduceMul, Nat.reduceSub, Int.reduceToNat, Nat.reduceBEq, s11], lbn, lb1, lbA, _, by simp (disch := first | (simp only [go_sem, gb0, eq_self]; done) | omega | (simp only [gl1, gl2]; omega)) only [go_sem, ↓reduceIte, Nat.reduceEqDiff, Nat.reduceAdd, Nat.reduceMul, Nat.reduceSub, Int.reduceToNat, Nat.reduceBEq], lbo⟩
    · rintro st h ⟨u, s12, ou⟩
      simp (disch := first | (simp only [go_sem, gb0, eq_self]; done) | omega | (simp only [gl1, gl2]; omega)) only [go_sem, ↓reduceIte, Nat.reduceEqDiff, Nat.reduceAdd, Nat.reduceMul, Nat.reduceSub, Int.reduceToNat, Nat.reduceBEq, s12]
      rw [hn, hval]
      exact export_Own (f := eP) 28 ou
end Go.Proofs.Ytgamcclfdkpcgaa

set_option linter.unusedVariables false
set_option linter.unusedSimpArgs false
set_option maxRecDepth 10000
namespace Go.Proofs.Ytgamcclfdkpcgaa
open Go Go.Am

variable {h h' : Hp} {K : AV → Hp → Prop}

theorem f30_nil (p c : List Int) : Con Try.prog cfg 30 [.agg [.nil, LI p, LI c]] (.bool false) := by
  have hal : ∀ g : Hp, allocB g (some (.agg [.nil, LI p, LI c])) = some (.ptr g.nx 0, g.alloc (.cells false false [.nil, LI p, LI c])) := fun g => allocB_agg _ rfl
  have h01 : (0 : Int) < 1 := by decide
  have hl : ∀ h lim, lenB (some (.slice 23)) .nil h lim = some (I 0) := fun _ _ => rfl
  refine Con_intro Try.func30 rfl ok30 (Nat.le_of_ble_eq_true rfl) rfl ?_
  simp only [Try.f30, Option.getD_some, initSt1]
  simp (disch := first | (simp only [go_sem, gb0, eq_self]; done) | omega | (simp only [gl1, gl2]; omega)) only [go_sem, ↓reduceIte, Nat.reduceEqDiff, Nat.reduceAdd, Nat.reduceMul, Nat.reduceSub, Int.reduceToNat, Nat.reduceBEq, hal, hl, h01]
theorem f30_con (nx : List (List Int)) (pay cost : List Int) (hk : okN nx pay cost) : Con Try.prog cfg 30 [chA nx pay cost] (.bool (chB nx pay cost)) := by
  have ml : maxLen = 9223372036854775807 := by decide
  have hkn := hk.n
  have hkp := hk.p
  have hkc := hk.c
  have hal : ∀ g : Hp, allocB g (some (chA nx pay cost)) = some (.ptr g.nx 0, g.alloc (.cells false false [LLI nx, LI pay, LI cost])) := fun g => allocB_agg _ rfl
  obtain ⟨b, hb⟩ : ∃ b, b = chB nx pay cost := ⟨_, rfl⟩
  rw [← hb]
  by_cases e1 : (nx.length : Int) < 1
  · have hr : b = false := by rw [hb, chB, show inB nx.length 1 6 = false from by simp [inB]; omega]; rfl
    refine Con_intro Try.func30 rfl ok30 (Nat.le_of_ble_eq_true rfl) rfl ?_
    simp only [Try.f30, Option.getD_some, initSt1]
    simp (disch := first | (simp only [go_sem, gb0, eq_self]; done) | omega | (simp only [gl1, gl2]; omega)) only [go_sem, ↓reduceIte, Nat.reduceEqDiff, Nat.reduceAdd, Nat.reduceMul, Nat.reduceSub, Int.reduceToNat, Nat.reduceBEq, hal, e1, hr]
  by_cases e2 : 6 < (nx.length : Int)
  · have hr : b = false := by rw [hb, chB, show inB nx.length 1 6 = false from by simp [inB]; omega]; rfl
    refine Con_intro Try.func30 rfl ok30 (Nat.le_of_ble_eq_true rfl) rfl ?_
    simp only [Try.f30, Option.getD_some, initSt1]
    simp (disch := first | (simp only [go_sem, gb0, eq_self]; done) | omega | (simp only [gl1, gl2]; omega)) only [go_sem, ↓reduceIte, Nat.reduceEqDiff, Nat.reduceAdd, Nat.reduceMul, Nat.reduceSub, Int.reduceToNat, Nat.reduceBEq, hal, e1, e2, hr]
  by_cases c2 : pay.length = nx.length
  case neg =>
    have hr : b = false := by rw [hb, chB, decide_eq_false c2]; simp
    have c2' : ¬ (pay.length : Int) = nx.length := by omega
    refine Con_intro Try.func30 rfl ok30 (Nat.le_of_ble_eq_true rfl) rfl ?_
    simp only [Try.f30, Option.getD_some, initSt1]
    simp (disch := first | (simp only [go_sem, gb0, eq_self]; done) | omega | (simp only [gl1, gl2]; omega)) only [go_sem, ↓reduceIte, Nat.reduceEqDiff, Nat.reduceAdd, Nat.reduceMul, Nat.reduceSub, Int.reduceToNat, Nat.reduceBEq, hal, e1, e2, c2, hr, List.drop_succ_cons]
  by_cases c3 : cost.length = nx.length
  case neg =>
    have hr : b = false := by rw [hb, chB, decide_eq_false c3]; simp
    have c3' : ¬ (cost.length : Int) = nx.length := by omega
    refine Con_intro Try.func30 rfl ok30 (Nat.le_of_ble_eq_true rfl) rfl ?_
    simp only [Try.f30, Option.getD_some, initSt1]
    simp (disch := first | (simp only [go_sem, gb0, eq_self]; done) | omega | (simp only [gl1, gl2]; omega)) only [go_sem, ↓reduceIte, Nat.reduceEqDiff, Nat.reduceAdd, Nat.reduceMul, Nat.reduceSub, Int.reduceToNat, Nat.reduceBEq, hal, e1, e2, c2, c3, hr, eq_self, decide_true, Bool.not_true, List.drop_succ_cons]
  obtain ⟨n, hn⟩ : ∃ n, n = nx.length := ⟨_, rfl⟩
  have hno : ∀ i, i < n → stB nx pay cost i = false → b = false := fun i hi h => by rw [hb]; exact st_no (by omega) h
  have hyes : (∀ i, i < n → stB nx pay cost i = true) → b = true := fun h => by
    rw [hb, chB, c2, c3, allR fun i hi => h i (by omega), show inB nx.length 1 6 = true from by simp [inB]; omega]; simp
  have e1n := e1
  have e2n := e2
  have c2n := c2
  have c3n := c3
  rw [← hn] at e1n e2n c2n c3n
  refine Con_intro Try.func30 rfl ok30 (Nat.le_of_ble_eq_true rfl) rfl ?_
  simp only [Try.f30, Option.getD_some, initSt1]
  simp (disch := first | (simp only [go_sem, gb0, eq_self]; done) | omega | (simp only [gl1, gl2]; omega)) only [go_sem, ↓reduceIte, Nat.reduceEqDiff, Nat.reduceAdd, Nat.reduceMul, Nat.reduceSub, Int.reduceToNat, Nat.reduceBEq, hal, e1n, e2n, c2n, c3n, eq_self, decide_true, Bool.not_true, List.drop_succ_cons, ← hn]
  refine WP_for 4 n (fun i st h => st 1 = .ptr 0 0 ∧ st 3 = I n ∧ h.bl 0 = some (.cells false false [LLI nx, LI pay, LI cost]) ∧ ∀ k, k < i → stB nx pay cost k = true) (by simp (disch := first | (simp only [go_sem, gb0, eq_self]; done) | omega | (simp only [gl1, gl2]; omega)) only [go_sem, ↓reduceIte, Nat.reduceEqDiff, Nat.reduceAdd, Nat.reduceMul, Nat.reduceSub, Int.reduceToNat, Nat.reduceBEq]) ⟨by simp (disch := first | (simp only [go_sem, gb0, eq_self]; done) | omega | (simp only [gl1, gl2]; omega)) only [go_sem, ↓reduceIte, Nat.reduceEqDiff, Nat.reduceAdd, Nat.reduceMul, Nat.reduceSub, Int.reduceToNat, Nat.reduceBEq], by simp (disch := first | (simp only [go_sem, gb0, eq_self]; done) | omega | (simp only [gl1, gl2]; omega)) only [go_sem, ↓reduceIte, Nat.reduceEqDiff, Nat.reduceAdd, Nat.reduceMul, Nat.reduceSub, Int.reduceToNat, Nat.reduceBEq], by simp (disch := first | (simp only [go_sem, gb0, eq_self]; done) | omega | (simp only [gl1, gl2]; omega)) only [go_sem, ↓reduceIte, Nat.reduceEqDiff, Nat.reduceAdd, Nat.reduceMul, Nat.reduceSub, Int.reduceToNat, Nat.reduceBEq], by omega⟩ ?_
  rintro i st h hi s4 ⟨s1, s3, b0, hall⟩
  by_cases hlt : i < n
  case neg =>
    have hr := hyes fun k hk => hall k (by omega)
    simp (disch := first | (simp only [go_sem, gb0, eq_self]; done) | omega | (simp only [gl1, gl2]; omega)) only [go_sem, ↓reduceIte, Nat.reduceEqDiff, Nat.reduceAdd, Nat.reduceMul, Nat.reduceSub, Int.reduceToNat, Nat.reduceBEq, s1, s3, s4, hlt, hr]
  have hi1 : i < nx.length := by omega
  have hi1' : (i : Int) < nx.length := by omega
  have hip : i < pay.length := by omega
  have hip' : (i : Int) < pay.length := by omega
  have hic : i < cost.length := by omega
  have hic' : (i : Int) < cost.length := by omega
  have hnoi := hno i hlt
  have hrl := hk.row _ (nth_mem hi1)
  obtain ⟨r, hr⟩ : ∃ r, r = nth nx i := ⟨_, rfl⟩
  have hrr : nth nx i = r := hr.symm
  rw [hrr] at hrl
  have hst : stB nx pay cost i = (decide (r.length = n) && (inB (nth pay i) 0 1000 && (inB (nth cost i) 0 100 && rowB r))) := by rw [stB, hrr, hn]
  by_cases d1 : r.length = n
  case neg =>
    have hb := hnoi (by rw [hst, decide_eq_false d1]; rfl)
    have d1' : ¬ (r.length : Int) = n := by omega
    simp (disch := first | (simp only [go_sem, gb0, eq_self]; done) | omega | (simp only [gl1, gl2]; omega)) only [go_sem, ↓reduceIte, Nat.reduceEqDiff, Nat.reduceAdd, Nat.reduceMul, Nat.reduceSub, Int.reduceToNat, Nat.reduceBEq, s1, s3, s4, hlt, hi1, hi1', hrr, d1, d1', b0, hb]
  have d1' : (r.length : Int) = n := by omega
  have hin : ∀ {x lo hi : Int}, ¬ (lo ≤ x ∧ x ≤ hi) → inB x lo hi = false := fun h => by
    rw [inB, Bool.and_eq_false_iff, decide_eq_false_iff_not, decide_eq_false_iff_not]; omega
  by_cases d2 : nth pay i < 0
  · have hb := hnoi (by rw [hst, hin (x := nth pay i) (by omega)]; simp)
    simp (disch := first | (simp only [go_sem, gb0, eq_self]; done) | omega | (simp only [gl1, gl2]; omega)) only [go_sem, ↓reduceIte, Nat.reduceEqDiff, Nat.reduceAdd, Nat.reduceMul, Nat.reduceSub, Int.reduceToNat, Nat.reduceBEq, s1, s3, s4, hlt, hi1, hi1', hip, hip', hrr, d1, d1', d2, b0, hb, eq_self, decide_true, Bool.not_true, List.drop_succ_cons]
  by_cases d3 : 1000 < nth pay i
  · have hb := hnoi (by rw [hst, hin (x := nth pay i) (by omega)]; simp)
    simp (disch := first | (simp only [go_sem, gb0, eq_self]; done) | omega | (simp only [gl1, gl2]; omega)) only [go_sem, ↓reduceIte, Nat.reduceEqDiff, Nat.reduceAdd, Nat.reduceMul, Nat.reduceSub, Int.reduceToNat, Nat.reduceBEq, s1, s3, s4, hlt, hi1, hi1', hip, hip', hrr, d1, d1', d2, d3, b0, hb, eq_self, decide_true, Bool.not_true, List.drop_succ_cons]
  by_cases d4 : nth cost i < 0
  · have hb := hnoi (by rw [hst, hin (x := nth cost i) (by omega)]; simp)
    simp (disch := first | (simp only [go_sem, gb0, eq_self]; done) | omega | (simp only [gl1, gl2]; omega)) only [go_sem, ↓reduceIte, Nat.reduceEqDiff, Nat.reduceAdd, Nat.reduceMul, Nat.reduceSub, Int.reduceToNat, Nat.reduceBEq, s1, s3, s4, hlt, hi1, hi1', hip, hip', hic, hic', hrr, d1, d1', d2, d3, d4, b0, hb, eq_self, decide_true, Bool.not_true, List.drop_succ_cons]
  by_cases d5 : 100 < nth cost i
  · have hb := hnoi (by rw [hst, hin (x := nth cost i) (by omega)]; simp)
    simp (disch := first | (simp only [go_sem, gb0, eq_self]; done) | omega | (simp only [gl1, gl2]; omega)) only [go_sem, ↓reduceIte, Nat.reduceEqDiff, Nat.reduceAdd, Nat.reduceMul, Nat.reduceSub, Int.reduceToNat, Nat.reduceBEq, s1, s3, s4, hlt, hi1, hi1', hip, hip', hic, hic', hrr, d1, d1', d2, d3, d4, d5, b0, hb, eq_self, decide_true, Bool.not_true, List.drop_succ_cons]
  have hst2 : stB nx pay cost i = rowB r := by
    rw [hst, decide_eq_true d1, show inB (nth pay i) 0 1000 = true from by simp [inB]; omega, show inB (nth cost i) 0 100 = true from by simp [inB]; omega]; rfl
  simp (disch := first | (simp only [go_sem, gb0, eq_self]; done) | omega | (simp only [gl1, gl2]; omega)) only [go_sem, ↓reduceIte, Nat.reduceEqDiff, Nat.reduceAdd, Nat.reduceMul, Nat.reduceSub, Int.reduceToNat, Nat.reduceBEq, s1, s3, s4, hlt, hi1, hi1', hip, hip', hic, hic', hrr, d1, d1', d2, d3, d4, d5, b0, eq_self, decide_true, Bool.not_true, List.drop_succ_cons]
  refine WP_cut (fun st h => st 1 = .ptr 0 0 ∧ st 3 = I n ∧ st 4 = I i ∧ st 5 = I (sumN (fun j => nth r j) n) ∧ h.bl 0 = some (.cells false false [LLI nx, LI pay, LI cost]) ∧ ∀ k, k < n → inB (nth r k) 0 4 = true) ?_ ?_
  · refine WP_for 6 n (fun j st h => st 1 = .ptr 0 0 ∧ st 3 = I n ∧ st 4 = I i ∧ st 5 = I (sumN (fun j => nth r j) j) ∧ h.bl 0 = some (.cells false false [LLI nx, LI pay, LI cost]) ∧ ∀ k, k < j → inB (nth r k) 0 4 = true) (by simp (disch := first | (simp only [go_sem, gb0, eq_self]; done) | omega | (simp only [gl1, gl2]; omega)) only [go_sem, ↓reduceIte, Nat.reduceEqDiff, Nat.reduceAdd, Nat.reduceMul, Nat.reduceSub, Int.reduceToNat, Nat.reduceBEq])
      ⟨by simp (disch := first | (simp only [go_sem, gb0, eq_self]; done) | omega | (simp only [gl1, gl2]; omega)) only [go_sem, ↓reduceIte, Nat.reduceEqDiff, Nat.reduceAdd, Nat.reduceMul, Nat.reduceSub, Int.reduceToNat, Nat.reduceBEq, s1], by simp (disch := first | (simp only [go_sem, gb0, eq_self]; done) | omega | (simp only [gl1, gl2]; omega)) only [go_sem, ↓reduceIte, Nat.reduceEqDiff, Nat.reduceAdd, Nat.reduceMul, Nat.reduceSub, Int.reduceToNat, Nat.reduceBEq, s3], by simp (disch := first | (simp only [go_sem, gb0, eq_self]; done) | omega | (simp only [gl1, gl2]; omega)) only [go_sem, ↓reduceIte, Nat.reduceEqDiff, Nat.reduceAdd, Nat.reduceMul, Nat.reduceSub, Int.reduceToNat, Nat.reduceBEq, s4], by simp (disch := first | (simp only [go_sem, gb0, eq_self]; done) | omega | (simp only [gl1, gl2]; omega)) only [go_sem, ↓reduceIte, Nat.reduceEqDiff, Nat.reduceAdd, Nat.reduceMul, Nat.reduceSub, Int.reduceToNat, Nat.reduceBEq]; rfl, by simp (disch := first | (simp only [go_sem, gb0, eq_self]; done) | omega | (simp only [gl1, gl2]; omega)) only [go_sem, ↓reduceIte, Nat.reduceEqDiff, Nat.reduceAdd, Nat.reduceMul, Nat.reduceSub, Int.reduceToNat, Nat.reduceBEq, b0], by omega⟩ ?_
    rintro j st h hj s6 ⟨s1, s3, s4, s5, b0, hpj⟩
    by_cases hjn : j < n
    case neg =>
      have hje : j = n := by omega
      subst hje
      simp (disch := first | (simp only [go_sem, gb0, eq_self]; done) | omega | (simp only [gl1, gl2]; omega)) only [go_sem, ↓reduceIte, Nat.reduceEqDiff, Nat.reduceAdd, Nat.reduceMul, Nat.reduceSub, Int.reduceToNat, Nat.reduceBEq, s1, s3, s4, s5, s6, hjn]
      exact ⟨b0, hpj⟩
    have hjr : j < r.length := by omega
    have hjr' : (j : Int) < r.length := by omega
    by_cases f1 : nth r j < 0
    · have hb := hnoi (by rw [hst2, rowB, notR hjr (hin (x := nth r j) (by omega)), Bool.false_and])
      simp (disch := first | (simp only [go_sem, gb0, eq_self]; done) | omega | (simp only [gl1, gl2]; omega)) only [go_sem, ↓reduceIte, Nat.reduceEqDiff, Nat.reduceAdd, Nat.reduceMul, Nat.reduceSub, Int.reduceToNat, Nat.reduceBEq, s1, s3, s4, s5, s6, hi1, hi1', hrr, hjn, hjr, hjr', b0, f1, hb]
    by_cases f2 : 4 < nth r j
    · have hb := hnoi (by rw [hst2, rowB, notR hjr (hin (x := nth r j) (by omega)), Bool.false_and])
      simp (disch := first | (simp only [go_sem, gb0, eq_self]; done) | omega | (simp only [gl1, gl2]; omega)) only [go_sem, ↓reduceIte, Nat.reduceEqDiff, Nat.reduceAdd, Nat.reduceMul, Nat.reduceSub, Int.reduceToNat, Nat.reduceBEq, s1, s3, s4, s5, s6, hi1, hi1', hrr, hjn, hjr, hjr', b0, f1, f2, hb]
    have hsb := sum4 hpj
    have hs1 : sumN (fun k => nth r k) (j + 1) = sumN (fun k => nth r k) j + nth r j := rfl
    simp (disch := first | (simp only [go_sem, gb0, eq_self]; done) | omega | (simp only [gl1, gl2]; omega)) only [go_sem, ↓reduceIte, Nat.reduceEqDiff, Nat.reduceAdd, Nat.reduceMul, Nat.reduceSub, Int.reduceToNat, Nat.reduceBEq, s1, s3, s4, s5, s6, hi1, hi1', hrr, hjn, hjr, hjr', b0, f1, f2]
    rw [ForK_normal]
    refine ⟨hjn, by simp (disch := first | (simp only [go_sem, gb0, eq_self]; done) | omega | (simp only [gl1, gl2]; omega)) only [go_sem, ↓reduceIte, Nat.reduceEqDiff, Nat.reduceAdd, Nat.reduceMul, Nat.reduceSub, Int.reduceToNat, Nat.reduceBEq, s6], by simp (disch := first | (simp only [go_sem, gb0, eq_self]; done) | omega | (simp only [gl1, gl2]; omega)) only [go_sem, ↓reduceIte, Nat.reduceEqDiff, Nat.reduceAdd, Nat.reduceMul, Nat.reduceSub, Int.reduceToNat, Nat.reduceBEq, s1], by simp (disch := first | (simp only [go_sem, gb0, eq_self]; done) | omega | (simp only [gl1, gl2]; omega)) only [go_sem, ↓reduceIte, Nat.reduceEqDiff, Nat.reduceAdd, Nat.reduceMul, Nat.reduceSub, Int.reduceToNat, Nat.reduceBEq, s3], by simp (disch := first | (simp only [go_sem, gb0, eq_self]; done) | omega | (simp only [gl1, gl2]; omega)) only [go_sem, ↓reduceIte, Nat.reduceEqDiff, Nat.reduceAdd, Nat.reduceMul, Nat.reduceSub, Int.reduceToNat, Nat.reduceBEq, s4], by (rw [hs1]; simp (disch := first | (simp only [go_sem, gb0, eq_self]; done) | omega | (simp only [gl1, gl2]; omega)) only [go_sem, ↓reduceIte, Nat.reduceEqDiff, Nat.reduceAdd, Nat.reduceMul, Nat.reduceSub, Int.reduceToNat, Nat.reduceBEq]), b0, fun k hk => ?_⟩
    by_cases hkj : k = j
    · subst hkj; simp [inB]; omega
    · exact hpj k (by omega)
  · rintro st h ⟨s1, s3, s4, s5, b0, hpj⟩
    have hrb : rowB r = decide (sumN (fun j => nth r j) n ≤ 4) := by rw [rowB, d1, allR hpj, Bool.true_and]
    by_cases d5 : 4 < sumN (fun j => nth r j) n
    · have hb := hnoi (by rw [hst2, hrb]; exact decide_eq_false (by omega))
      simp (disch := first | (simp only [go_sem, gb0, eq_self]; done) | omega | (simp only [gl1, gl2]; omega)) only [go_sem, ↓reduceIte, Nat.reduceEqDiff, Nat.reduceAdd, Nat.reduceMul, Nat.reduceSub, Int.reduceToNat, Nat.reduceBEq, s1, s3, s4, s5, d5, hb]
    · simp (disch := first | (simp only [go_sem, gb0, eq_self]; done) | omega | (simp only [gl1, gl2]; omega)) only [go_sem, ↓reduceIte, Nat.reduceEqDiff, Nat.reduceAdd, Nat.reduceMul, Nat.reduceSub, Int.reduceToNat, Nat.reduceBEq, s1, s3, s4, s5, d5]
      rw [ForK_normal]
      refine ⟨hlt, by simp (disch := first | (simp only [go_sem, gb0, eq_self]; done) | omega | (simp only [gl1, gl2]; omega)) only [go_sem, ↓reduceIte, Nat.reduceEqDiff, Nat.reduceAdd, Nat.reduceMul, Nat.reduceSub, Int.reduceToNat, Nat.reduceBEq, s4], by simp (disch := first | (simp only [go_sem, gb0, eq_self]; done) | omega | (simp only [gl1, gl2]; omega)) only [go_sem, ↓reduceIte, Nat.reduceEqDiff, Nat.reduceAdd, Nat.reduceMul, Nat.reduceSub, Int.reduceToNat, Nat.reduceBEq, s1], by simp (disch := first | (simp only [go_sem, gb0, eq_self]; done) | omega | (simp only [gl1, gl2]; omega)) only [go_sem, ↓reduceIte, Nat.reduceEqDiff, Nat.reduceAdd, Nat.reduceMul, Nat.reduceSub, Int.reduceToNat, Nat.reduceBEq, s3], b0, fun k hk => ?_⟩
      by_cases hki : k = i
      · subst hki; rw [hst2, hrb]; exact decide_eq_true (by omega)
      · exact hall k (by omega)
end Go.Proofs.Ytgamcclfdkpcgaa

set_option linter.unusedVariables false
set_option linter.unusedSimpArgs false
set_option maxRecDepth 10000
namespace Go.Proofs.Ytgamcclfdkpcgaa
open Go Go.Am Go.RowKit Go.ChangeShapes Go.WideShapes

/-- A struct of three fields, each of one cell. -/
theorem Rd.three {P : Program} {t : TypeId} {α β γ : Type} {ga : α → Prop} {gb : β → Prop} {gc : γ → Prop} {fa : α → AV} {fb : β → AV} {fc : γ → AV} {f0 f1 f2 : Field} (ht : P.underlying t = some (.struct #[f0, f1, f2]))
    (h0 : f0.offset = 0) (h1 : f1.offset = 1) (h2 : f2.offset = 2) (ca : P.cellsOf f0.type = 1) (cb : P.cellsOf f1.type = 1) (cc : P.cellsOf f2.type = 1) (ct : P.cellsOf t = 3)
    (ha : Rd P f0.type ga (e1 fa)) (hb : Rd P f1.type gb (e1 fb)) (hc : Rd P f2.type gc (e1 fc)) :
    Rd P t (fun x : α × β × γ => ga x.1 ∧ gb x.2.1 ∧ gc x.2.2) (fun x => [fa x.1, fb x.2.1, fc x.2.2]) := by
  intro H enc w held fuel cs x h
  obtain ⟨ys, m, _, _, hl, hyl, hi⟩ := DataW.trod_struct ht h
  have i0 := hi 0 f0 rfl
  have i1 := hi 1 f1 rfl
  have i2 := hi 2 f2 rfl
  have e0 : (#[f0, f1, f2] : Array Field).size = 3 := rfl
  rw [e0] at hyl
  rw [List.getElem?_eq_getElem (by omega)] at i0 i1 i2
  obtain ⟨a, ga', ra⟩ := ha i0
  obtain ⟨b, gb', rb⟩ := hb i1
  obtain ⟨c, gc', rc⟩ := hc i2
  rw [h0, ca] at ra
  rw [h1, cb] at rb
  rw [h2, cc] at rc
  refine ⟨(a, b, c), ⟨ga', gb', gc'⟩, ?_, fun j u hu => ?_⟩
  · show 3 = _; omega
  · match j with
    | 0 =>
      cases hu
      obtain ⟨g1, v, g2, g3⟩ := ra.2 0 _ rfl
      refine ⟨g1, v, ?_, g3⟩
      rw [List.drop_zero, List.getElem?_take, if_pos (by omega)] at g2
      exact g2
    | 1 =>
      cases hu
      obtain ⟨g1, v, g2, g3⟩ := rb.2 0 _ rfl
      refine ⟨g1, v, ?_, g3⟩
      rw [List.getElem?_take, if_pos (by omega), List.getElem?_drop] at g2
      exact g2
    | 2 =>
      cases hu
      obtain ⟨g1, v, g2, g3⟩ := rc.2 0 _ rfl
      refine ⟨g1, v, ?_, g3⟩
      rw [List.getElem?_take, if_pos (by omega), List.getElem?_drop] at g2
      exact g2
    | j + 3 => cases hu
theorem rdI : Rd Try.prog 3 Go.Am.ok64 (e1 I) := Rd.int und3
theorem rdLI : Rd Try.prog 23 (fun xs : List Int => (∀ x ∈ xs, Go.Am.ok64 x) ∧ xs.length ≤ maxLen) (e1 LI) := Rd.sl und23 (by kernel_rfl) rdI (fun _ => rfl) (by decide)
theorem rdLLI : Rd Try.prog 22 (fun xs : List (List Int) => (∀ x ∈ xs, (∀ y ∈ x, Go.Am.ok64 y) ∧ x.length ≤ maxLen) ∧ xs.length ≤ maxLen) (e1 LLI) := Rd.sl und22 (by kernel_rfl) rdLI (fun _ => rfl) (by decide)
theorem rdChn : Rd Try.prog 25 (fun x : List (List Int) × List Int × List Int => ((∀ l ∈ x.1, (∀ y ∈ l, Go.Am.ok64 y) ∧ l.length ≤ maxLen) ∧ x.1.length ≤ maxLen) ∧ ((∀ y ∈ x.2.1, Go.Am.ok64 y) ∧ x.2.1.length ≤ maxLen) ∧ ((∀ y ∈ x.2.2, Go.Am.ok64 y) ∧ x.2.2.length ≤ maxLen)) (fun x => [LLI x.1, LI x.2.1, LI x.2.2]) :=
  Rd.three und25 rfl rfl rfl (by kernel_rfl) (by kernel_rfl) (by kernel_rfl) (by kernel_rfl) rdLLI rdLI rdLI
theorem rdFr : Rd Try.prog 37 (fun q : Int × Int => Go.Am.ok64 q.1 ∧ Go.Am.ok64 q.2) eP :=
  Rd.two und37 rfl rfl (by kernel_rfl) (by kernel_rfl) (by kernel_rfl) rdI rdI (fun _ => rfl) (fun _ => rfl)
theorem rdLF : Rd Try.prog 28 (fun fs : List (Int × Int) => (∀ q ∈ fs, Go.Am.ok64 q.1 ∧ Go.Am.ok64 q.2) ∧ fs.length ≤ maxLen) (e1 LP) := Rd.sl (sz := 2) und28 (by kernel_rfl) rdFr (fun _ => rfl) (by decide)
theorem okN.of {nx : List (List Int)} {pay cost : List Int} (h : ((∀ l ∈ nx, (∀ y ∈ l, Go.Am.ok64 y) ∧ l.length ≤ maxLen) ∧ nx.length ≤ maxLen) ∧ ((∀ y ∈ pay, Go.Am.ok64 y) ∧ pay.length ≤ maxLen) ∧ ((∀ y ∈ cost, Go.Am.ok64 y) ∧ cost.length ≤ maxLen)) : okN nx pay cost :=
  ⟨h.1.2, fun l hl => (h.1.1 l hl).2, h.2.1.2, h.2.2.2⟩
theorem nxM_len (nx : List (List Int)) : (nxM nx).length ≤ 8 := by simp [nxM]; omega
theorem listM_len (l : List Int) : (listM l).length ≤ 8 := by rw [listM, List.length_take]; omega
theorem okN.copy (nx : List (List Int)) (pay cost : List Int) : okN (nxM nx) (listM pay) (listM cost) := by
  have ml : maxLen = 9223372036854775807 := by decide
  have h1 := nxM_len nx
  have h2 := listM_len pay
  have h3 := listM_len cost
  refine ⟨by omega, fun l hl => ?_, by omega, by omega⟩
  obtain ⟨i, _, rfl⟩ := List.mem_map.1 hl
  have := listM_len (nth nx i)
  omega
end Go.Proofs.Ytgamcclfdkpcgaa

set_option linter.unusedVariables false
set_option linter.unusedSimpArgs false
set_option maxRecDepth 10000
namespace Go.Proofs.Ytgamcclfdkpcgaa
open Go Go.Am

variable {h h' : Hp} {K : AV → Hp → Prop}

/-- The rows so far are true. -/
def goodR (n : Nat) (R : List (List Int)) (P C : List Int) (i : Nat) : Prop := (R.length = i ∧ P.length = i ∧ C.length = i) ∧ ∀ k, k < i → (nth R k).length = n ∧ (inB (nth P k) 0 1000 = true ∧ (inB (nth C k) 0 100 = true ∧ rowB (nth R k) = true))
theorem goodR.chB {n : Nat} {R : List (List Int)} {P C : List Int} (h : goodR n R P C n) (h1 : 1 ≤ n) (h6 : n ≤ 6) : chB R P C = true := by
  obtain ⟨⟨hr, hp, hc⟩, hk⟩ := h
  rw [Go.Proofs.Ytgamcclfdkpcgaa.chB, hr, hp, hc]
  have h1' : inB n 1 6 = true := by rw [inB, decide_eq_true (by omega), decide_eq_true (by omega)]; rfl
  rw [h1', decide_eq_true rfl]
  refine allR fun i hi => ?_
  obtain ⟨k1, k2, k3, k4⟩ := hk i hi
  rw [stB, hr, k1, k2, k3, k4, decide_eq_true rfl]; rfl
theorem goodR.snoc {n i : Nat} {R : List (List Int)} {P C : List Int} (h : goodR n R P C i) {r : List Int} {p c : Int} (hr : r.length = n) (hp : inB p 0 1000 = true) (hc : inB c 0 100 = true) (hb : rowB r = true) : goodR n (R ++ [r]) (P ++ [p]) (C ++ [c]) (i + 1) := by
  obtain ⟨⟨lr, lp, lc⟩, hk⟩ := h
  have nl : ∀ {α : Type} [Inhabited α] (l : List α) (x : α) (k : Nat), k < l.length → nth (l ++ [x]) k = nth l k := fun l x k hk => by rw [nth, List.getElem?_append_left hk]; rfl
  have ne : ∀ {α : Type} [Inhabited α] (l : List α) (x : α), nth (l ++ [x]) l.length = x := fun l x => by rw [nth, List.getElem?_append_right (Nat.le_refl _), Nat.sub_self]; rfl
  refine ⟨by simp [lr, lp, lc], fun k hki => ?_⟩
  by_cases e : k = i
  · subst e
    have e1 := ne R r; rw [lr] at e1
    have e2 := ne P p; rw [lp] at e2
    have e3 := ne C c; rw [lc] at e3
    rw [e1, e2, e3]
    exact ⟨hr, hp, hc, hb⟩
  · rw [nl R r k (by omega), nl P p k (by omega), nl C c k (by omega)]
    exact hk k (by omega)
theorem rowB_of {f : Nat → Int} {n : Nat} (h : ∀ k, k < n → 0 ≤ f k ∧ f k ≤ 4) (hs : sumN f n ≤ 4) : rowB ((List.range n).map f) = true := by
  have hl : ((List.range n).map f).length = n := by simp
  rw [rowB, hl]
  have h1 : (List.range n).all (fun j => inB (nth ((List.range n).map f) j) 0 4) = true := allR fun i hi => by
    rw [nth_map_range _ _ _ hi, inB, decide_eq_true (h i hi).1, decide_eq_true (h i hi).2]; rfl
  rw [h1, sumN_congr (g := f) fun j hj => nth_map_range _ _ _ hj, decide_eq_true hs]; rfl
/-- The row as it is filled: what is left, and zeros from j on. -/
def rowI (f : Nat → Int) (left : Int) (j : Nat) : Prop := 0 ≤ left ∧ left ≤ 4 ∧ sumN f j + left = 4 ∧ (∀ k, 0 ≤ f k ∧ f k ≤ 4) ∧ ∀ k, j ≤ k → f k = 0
theorem rowI.step {f : Nat → Int} {left x : Int} {j : Nat} (h : rowI f left j) (hx : 0 ≤ x ∧ x < 5) : rowI (setV f j (min left x)) (left - min left x) (j + 1) := by
  obtain ⟨h0, h4, hs, hf, hz⟩ := h
  have hsum : sumN (setV f j (min left x)) j = sumN f j := sumN_congr fun k hk => by rw [setV, if_neg (by omega)]
  refine ⟨by omega, by omega, ?_, fun k => ?_, fun k hk => ?_⟩
  · show sumN (setV f j (min left x)) j + setV f j (min left x) j + _ = 4
    rw [hsum, setV, if_pos rfl]; omega
  · unfold setV; split
    · omega
    · exact hf k
  · rw [setV, if_neg (by omega)]; exact hz k (by omega)
theorem rowI.sum {f : Nat → Int} {left : Int} {j n : Nat} (h : rowI f left j) (hj : j ≤ n) : sumN f n ≤ 4 := by
  obtain ⟨h0, h4, hs, hf, hz⟩ := h
  have : ∀ m, sumN f (j + m) = sumN f j := fun m => by
    induction m with
    | zero => rfl
    | succ m ih => show sumN f (j + m) + f (j + m) = _; rw [ih, hz _ (by omega)]; omega
  have := this (n - j)
  rw [Nat.add_sub_cancel' hj] at this
  omega

/-- A contract whose answer the walk itself finds. -/
def RetE (P : Program) (S : AV → Prop) (ow kn : Bool) (rs : List ResultVar) (ts : List TypeId) : Exit → St → Hp → Prop := fun x st h => ∃ r, S r ∧ RetK P ow kn rs ts r x st h
theorem Con_introE {P : Program} {cfg : Cfg} {S : AV → Prop} {f : FuncId} {fn : Func} {args : List AV} (hf : P.funcs[f]? = some fn) (hbody : fn.body.isSome = true) (hok : funcOk cfg fn (fn.body.getD .skip) = true) (hl : args.length ≤ fn.ntmps) (hext : cfg.ext f args = none)
    (hw : WP P cfg (fn.body.getD .skip) (initSt args) Hp.empty (RetE P S (cfg.own f) (cfg.keepNil f) fn.results.toList fn.resultTypes.toList)) : ∃ r, S r ∧ Con P cfg f args r := by
  obtain ⟨k, x, st', h', e, r, hs, hr⟩ := hw
  exact ⟨r, hs, Con_intro hf hbody hok hl hext ⟨k, x, st', h', e, hr⟩⟩
theorem own_rows {v : AV} {R : List (List Int)} (o : Go.Am.Own (e1 LI) 1 h v R) (hn : 0 < R.length) : v.isPure = false := by
  obtain ⟨id, rfl, _⟩ := o.sl hn; rfl
theorem sealV_own {α : Type} {f : α → List AV} {sz : Nat} [RowEnc f sz] {v : AV} {xs : List α} (o : Go.Am.Own f sz h v xs) : sealV h v = sealA h v := by
  rcases o with ⟨rfl, _⟩ | ⟨id, rfl, _⟩ <;> rfl
theorem own_seal {α β : Type} {f : α → List AV} {sz : Nat} {g : β → List AV} {tz : Nat} {v w : AV} {ys : List β} {g1 : Hp} (q : Go.Am.Own g tz h w ys) (d : Dis v w) (n1 : g1.nx = h.nx) (b1 : ∀ i, (∀ id off n sz', v = .sl id off n sz' → i ≠ id) → g1.bl i = h.bl i) : Go.Am.Own g tz g1 w ys := by
  rcases q with q | ⟨id, e, hi, hc⟩
  · exact .inl q
  · refine .inr ⟨id, e, by omega, ?_⟩
    rw [b1 id fun id' off n sz' e' => (d _ _ _ _ _ _ _ _ e' e).symm]; exact hc
theorem seal_ch3 {v w u : AV} {R : List (List Int)} {P C : List Int} (ov : Go.Am.Own (e1 LI) 1 h v R) (ow : Go.Am.Own (e1 I) 1 h w P) (ou : Go.Am.Own (e1 I) 1 h u C) (d1 : Dis v w) (d2 : Dis v u) (d3 : Dis w u) (hn : 0 < R.length) :
    ∃ g, sealA h (.agg [v, w, u]) = some (chA R P C, g) := by
  obtain ⟨g1, r1, n1, b1⟩ := sealA_Own ov
  have ow1 := own_seal (f := e1 LI) (sz := 1) (α := List Int) ow d1 n1 b1
  have ou1 := own_seal (f := e1 LI) (sz := 1) (α := List Int) ou d2 n1 b1
  obtain ⟨g2, r2, n2, b2⟩ := sealA_Own ow1
  have ou2 := own_seal (f := e1 I) (sz := 1) (α := Int) ou1 d3 n2 b2
  obtain ⟨g3, r3, n3, b3⟩ := sealA_Own ou2
  rw [← sealV_own ov] at r1
  rw [← sealV_own ow1] at r2
  rw [← sealV_own ou2] at r3
  have sc : sealCells h [v, w, u] = some ([LLI R, LI P, LI C], g3) := by simp only [sealCells, r1, r2, r3, Option.bind_some, Option.map_some]
  have hp : (AV.agg [v, w, u]).isPure = false := by
    show AV.pureL [v, w, u] = false
    simp only [AV.pureL, own_rows ov hn, Bool.false_and]
  exact ⟨g3, by simp only [sealA, hp, sc, Option.map_some]; rfl⟩
theorem export_ch3 (t : TypeId) {v w u : AV} {R : List (List Int)} {P C : List Int} (ov : Go.Am.Own (e1 LI) 1 h v R) (ow : Go.Am.Own (e1 I) 1 h w P) (ou : Go.Am.Own (e1 I) 1 h u C) (d1 : Dis v w) (d2 : Dis v u) (d3 : Dis w u) (hn : 0 < R.length) :
    exportR Try.prog false false [t] h (.agg [v, w, u]) = some (chA R P C) := by
  obtain ⟨g, hg⟩ := seal_ch3 ov ow ou d1 d2 d3 hn
  have hx : exportR Try.prog false false [t] h (.agg [v, w, u]) = (sealA h (.agg [v, w, u])).bind fun r => if isTup r.1 then none else some r.1 := by
    show (exportV Try.prog false false t h [] (.agg [v, w, u])).bind _ = _
    rw [exportV_plain]
    cases sealA h (.agg [v, w, u]) <;> rfl
  rw [hx, hg]; rfl

/-- The three lists that are being built. -/
def Tri (h : Hp) (n i : Nat) (v w u : AV) : Prop := ∃ R P C, Go.Am.Own (e1 LI) 1 h v R ∧ Go.Am.Own (e1 I) 1 h w P ∧ Go.Am.Own (e1 I) 1 h u C ∧ Dis v w ∧ Dis v u ∧ Dis w u ∧ goodR n R P C i

theorem app_step {α : Type} {f : α → List AV} {sz : Nat} {v : AV} {xs : List α} (o : Go.Am.Own f sz h v xs) (ys : List α) :
    (appH h v (ys.flatMap f)).nx = h.nx + 1 ∧ (∀ (i : Nat) (fz : Bool) (flat : List AV), h.bl i = some (.cells fz false flat) → i < h.nx → (appH h v (ys.flatMap f)).bl i = some (.cells fz false flat)) ∧
    Go.Am.Own f sz (appH h v (ys.flatMap f)) (appV h ys.length sz) ys ∧
    (∀ {β : Type} {g : β → List AV} {tz : Nat} {w : AV} {zs : List β}, Go.Am.Own g tz h w zs → Dis v w → Go.Am.Own g tz (appH h v (ys.flatMap f)) w zs ∧ Dis (appV h ys.length sz) w) := by
  refine ⟨appH_nx _ _ _, fun i fz flat hb hi => ?_, Own.app h v ys, fun ow d => ⟨ow.keep d _, ow.dis _ _⟩⟩
  rw [appH_bl _ _ _ _ hi fun id off n sz' e => ?_]
  · exact hb
  · rcases o with ⟨rfl, _⟩ | ⟨id', e', _, hc⟩
    · cases e
    · rw [e'] at e; cases e
      intro he; subst he
      rw [hb] at hc; cases hc

theorem f15_con (nx : List (List Int)) (pay cost : List Int) (hk : okN nx pay cost) (m : Nat) (hm : 1 ≤ m ∧ m ≤ 5) : ∃ nx' pay' cost', (chB nx' pay' cost' = true ∧ nx'.length ≤ m) ∧ Con Try.prog cfg 15 [chA nx pay cost, I m] (chA nx' pay' cost') := by
  have ml : maxLen = 9223372036854775807 := by decide
  have hal : ∀ (g : Hp) nx pay cost, allocB g (some (chA nx pay cost)) = some (.ptr g.nx 0, g.alloc (.cells false false [LLI nx, LI pay, LI cost])) := fun g _ _ _ => allocB_agg _ rfl
  have hal2 : ∀ g : Hp, allocB g (some (.agg [.nil, .nil, .nil])) = some (.ptr g.nx 0, g.alloc (.cells false false [.nil, .nil, .nil])) := fun g => allocB_agg _ rfl
  have hse : ∀ (h : Hp) nx pay cost, sealA h (chA nx pay cost) = some (chA nx pay cost, h) := fun h _ _ _ => sealA_agg _ (by simp only [AV.pureL, pure_L, Bool.and_true])
  have k17 := fun h h' K => ConW_any (h := h) (h' := h') (K := K) (f17_con nx pay cost hk) (by unfold chV; split <;> rfl)
  have hk2 := okN.copy nx pay cost
  have hx8 := nxM_len nx
  generalize nxM nx = nx2 at *
  generalize listM pay = pay2 at *
  generalize listM cost = cost2 at *
  obtain ⟨f0, hf0⟩ : ∃ f0, f0 = if nx2 = [] then AV.nil else LLI nx2 := ⟨_, rfl⟩
  have hch : chV nx2 pay2 cost2 = .agg [f0, LI pay2, LI cost2] := by rw [hf0, chV]; split <;> rfl
  have hfc : f0.isCell = true := by rw [hf0]; split <;> rfl
  have hfp : f0.isPure = true := by rw [hf0]; split <;> first | rfl | exact pure_L _
  have hlen : ∀ h lim, lenB (some (.slice 23)) f0 h lim = some (I nx2.length) := fun h lim => by
    rw [hf0]; split
    · rename_i e; rw [e]; rfl
    · simp only [go_sem]
  have hi1 : ∀ h : Hp, importR h (.agg [f0, LI pay2, LI cost2]) = (.agg [f0, LI pay2, LI cost2], h) := fun _ => rfl
  have hst : ∀ (g : Hp) (id : Nat), storeC g id 0 3 (some (.cells false false [.nil, .nil, .nil])) [f0, LI pay2, LI cost2] = some (.skp, g.put id (some (.cells false false [f0, LI pay2, LI cost2]))) := fun g id => by
    have h1 : (LI pay2).isCell = true := rfl
    have h2 : (LI cost2).isCell = true := rfl
    simp [storeC, setL, hfc, h1, h2]
  have hse1 : ∀ h : Hp, sealA h (.agg [f0, LI pay2, LI cost2]) = some (.agg [f0, LI pay2, LI cost2], h) := fun h => sealA_agg _ (by simp only [AV.pureL, hfp, pure_L, Bool.and_true])
  rw [hch] at k17
  cases c1 : (chB nx2 pay2 cost2 && decide (nx2.length ≤ m)) with
  | true =>
    rw [Bool.and_eq_true, decide_eq_true_eq] at c1
    refine ⟨nx2, pay2, cost2, c1, ?_⟩
    have hne : ¬ nx2 = [] := fun e => by rw [e] at c1; exact absurd c1.1 (by simp [chB, inB])
    have he : f0 = LLI nx2 := by rw [hf0, if_neg hne]
    subst he
    have k30 := fun h h' K => ConW_num (h := h) (h' := h') (K := K) (f30_con nx2 pay2 cost2 hk2) rfl
    rw [c1.1] at k30
    have c2 : (nx2.length : Int) ≤ m := by omega
    refine Con_intro Try.func15 rfl ok15 (Nat.le_of_ble_eq_true rfl) rfl ?_
    simp only [Try.f15, Option.getD_some, initSt2]
    simp (disch := first | (simp only [go_sem, gb0, eq_self]; done) | omega | (simp only [gl1, gl2]; omega)) only [go_sem, ↓reduceIte, Nat.reduceEqDiff, Nat.reduceAdd, Nat.reduceMul, Nat.reduceSub, Int.reduceToNat, Nat.reduceBEq, hal, hse, k17, hi1, hst, hse1, k30, hlen, c2]
    exact export_pure _ _ (by simp only [AV.pureL, pure_L, Bool.and_true])
  | false =>
    obtain ⟨b0, kb, hb0⟩ : ∃ b0, Con Try.prog cfg 30 [.agg [f0, LI pay2, LI cost2]] (.bool b0) ∧ (b0 = true → ¬ (nx2.length : Int) ≤ m) := by
      by_cases e : nx2 = []
      · exact ⟨false, by rw [hf0, if_pos e]; exact f30_nil pay2 cost2, fun h => by cases h⟩
      · refine ⟨chB nx2 pay2 cost2, by rw [hf0, if_neg e]; exact f30_con nx2 pay2 cost2 hk2, fun h => ?_⟩
        rw [h, Bool.true_and, decide_eq_false_iff_not] at c1
        omega
    have k30 := fun h h' K => ConW_num (h := h) (h' := h') (K := K) kb rfl
    have hmb := modI_bounds ((nx2.length : Int) - 1) (n := m) (by omega)
    have k18 := fun h h' K => ConW_num (h := h) (h' := h') (K := K) (f18_con ((nx2.length : Int) - 1) m (by omega)) rfl
    obtain ⟨n, hn⟩ : ∃ n : Nat, 1 + modI ((nx2.length : Int) - 1) m = (n : Int) := ⟨(1 + modI ((nx2.length : Int) - 1) m).toNat, by omega⟩
    have hn1 : 1 ≤ n := by omega
    have hnm : n ≤ m := by omega
    suffices hh : ∃ R P C, goodR n R P C n ∧ Con Try.prog cfg 15 [chA nx pay cost, I m] (chA R P C) by
      obtain ⟨R, P, C, hg, hc⟩ := hh
      exact ⟨R, P, C, ⟨hg.chB hn1 (by omega), by rw [hg.1.1]; exact hnm⟩, hc⟩
    suffices hh : ∃ r, (∃ R P C, goodR n R P C n ∧ r = chA R P C) ∧ Con Try.prog cfg 15 [chA nx pay cost, I m] r by
      obtain ⟨r, ⟨R, P, C, hg, rfl⟩, hc⟩ := hh
      exact ⟨R, P, C, hg, hc⟩
    refine Con_introE Try.func15 rfl ok15 (Nat.le_of_ble_eq_true rfl) rfl ?_
    simp only [Try.f15, Option.getD_some, initSt2]
    obtain ⟨NN, hNN⟩ : ∃ NN : List AV, NN = [.nil, .nil, .nil] := ⟨_, rfl⟩
    cases b0 <;> (
    simp (disch := first | (simp only [go_sem, gb0, eq_self]; done) | omega | (simp only [gl1, gl2]; omega)) only [go_sem, ↓reduceIte, Nat.reduceEqDiff, Nat.reduceAdd, Nat.reduceMul, Nat.reduceSub, Int.reduceToNat, Nat.reduceBEq, hal, hal2, hse, k17, hi1, hst, hse1, k30, hlen, hb0, k18, hn]
    refine WP_cut (fun st h => st 4 = .ptr 1 0 ∧ st 7 = .ptr 3 0 ∧ 4 ≤ h.nx ∧ h.bl 1 = some (.cells false false [.nil, .nil, .nil]) ∧ ∃ v w u, h.bl 3 = some (.cells false false [v, w, u]) ∧ Tri h n n v w u) ?_ ?_
    · refine WP_for 8 n (fun i st h => st 4 = .ptr 1 0 ∧ st 5 = .ptr 2 0 ∧ st 6 = I n ∧ st 7 = .ptr 3 0 ∧ 4 ≤ h.nx ∧ h.bl 1 = some (.cells false false [.nil, .nil, .nil]) ∧ h.bl 2 = some (.cells false false [f0, LI pay2, LI cost2]) ∧ ∃ v w u, h.bl 3 = some (.cells false false [v, w, u]) ∧ Tri h n i v w u) (by simp (disch := first | (simp only [go_sem, gb0, eq_self]; done) | omega | (simp only [gl1, gl2]; omega)) only [go_sem, ↓reduceIte, Nat.reduceEqDiff, Nat.reduceAdd, Nat.reduceMul, Nat.reduceSub, Int.reduceToNat, Nat.reduceBEq])
        ⟨by simp (disch := first | (simp only [go_sem, gb0, eq_self]; done) | omega | (simp only [gl1, gl2]; omega)) only [go_sem, ↓reduceIte, Nat.reduceEqDiff, Nat.reduceAdd, Nat.reduceMul, Nat.reduceSub, Int.reduceToNat, Nat.reduceBEq], by simp (disch := first | (simp only [go_sem, gb0, eq_self]; done) | omega | (simp only [gl1, gl2]; omega)) only [go_sem, ↓reduceIte, Nat.reduceEqDiff, Nat.reduceAdd, Nat.reduceMul, Nat.reduceSub, Int.reduceToNat, Nat.reduceBEq], by simp (disch := first | (simp only [go_sem, gb0, eq_self]; done) | omega | (simp only [gl1, gl2]; omega)) only [go_sem, ↓reduceIte, Nat.reduceEqDiff, Nat.reduceAdd, Nat.reduceMul, Nat.reduceSub, Int.reduceToNat, Nat.reduceBEq], by simp (disch := first | (simp only [go_sem, gb0, eq_self]; done) | omega | (simp only [gl1, gl2]; omega)) only [go_sem, ↓reduceIte, Nat.reduceEqDiff, Nat.reduceAdd, Nat.reduceMul, Nat.reduceSub, Int.reduceToNat, Nat.reduceBEq], by simp (disch := first | (simp only [go_sem, gb0, eq_self]; done) | omega | (simp only [gl1, gl2]; omega)) only [go_sem, ↓reduceIte, Nat.reduceEqDiff, Nat.reduceAdd, Nat.reduceMul, Nat.reduceSub, Int.reduceToNat, Nat.reduceBEq]; decide, by simp (disch := first | (simp only [go_sem, gb0, eq_self]; done) | omega | (simp only [gl1, gl2]; omega)) only [go_sem, ↓reduceIte, Nat.reduceEqDiff, Nat.reduceAdd, Nat.reduceMul, Nat.reduceSub, Int.reduceToNat, Nat.reduceBEq], by simp (disch := first | (simp only [go_sem, gb0, eq_self]; done) | omega | (simp only [gl1, gl2]; omega)) only [go_sem, ↓reduceIte, Nat.reduceEqDiff, Nat.reduceAdd, Nat.reduceMul, Nat.reduceSub, Int.reduceToNat, Nat.reduceBEq], .nil, .nil, .nil, by simp (disch := first | (simp only [go_sem, gb0, eq_self]; done) | omega | (simp only [gl1, gl2]; omega)) only [go_sem, ↓reduceIte, Nat.reduceEqDiff, Nat.reduceAdd, Nat.reduceMul, Nat.reduceSub, Int.reduceToNat, Nat.reduceBEq], [], [], [], .inl ⟨rfl, rfl⟩, .inl ⟨rfl, rfl⟩, .inl ⟨rfl, rfl⟩, Dis.nil_l _, Dis.nil_l _, Dis.nil_l _, ⟨rfl, rfl, rfl⟩, fun k hk => by omega⟩ ?_
      rintro i st h hi s8 ⟨s4, s5, s6, s7, hnx, b1, b2, v, w, u, b3, ht⟩
      by_cases hlt : i < n
      case neg =>
        obtain rfl : i = n := by omega
        simp (disch := first | (simp only [go_sem, gb0, eq_self]; done) | omega | (simp only [gl1, gl2]; omega)) only [go_sem, ↓reduceIte, Nat.reduceEqDiff, Nat.reduceAdd, Nat.reduceMul, Nat.reduceSub, Int.reduceToNat, Nat.reduceBEq, s4, s5, s6, s7, s8, hlt]
        exact ⟨hnx, b1, v, w, u, b3, ht⟩
      obtain ⟨R, P, C, ov, ow, ou, d1, d2, d3, hg⟩ := ht
      have hmk := fun g : Hp => makeB_int (P := Try.prog) (h := g) 3 (n : Int) isz3 ibytes3 izero3 (by omega) (by omega)
      simp only [Int.toNat_natCast, vecA_zero] at hmk
      obtain ⟨J, hJ⟩ : ∃ J, J = h.nx := ⟨_, rfl⟩
      simp (disch := first | (simp only [go_sem, gb0, eq_self]; done) | omega | (simp only [gl1, gl2]; omega)) only [go_sem, ↓reduceIte, Nat.reduceEqDiff, Nat.reduceAdd, Nat.reduceMul, Nat.reduceSub, Int.reduceToNat, Nat.reduceBEq, s4, s5, s6, s7, s8, hlt, hmk, ← hJ]
      refine WP_cut (fun st g => st 4 = .ptr 1 0 ∧ st 5 = .ptr 2 0 ∧ st 6 = I n ∧ st 7 = .ptr 3 0 ∧ st 8 = I i ∧ st 9 = .sl J 0 n 1 ∧ g.nx = J + 1 ∧ (∀ id, id < J → g.bl id = h.bl id) ∧ ∃ f, g.bl J = some (.cells false true (vecA f n)) ∧ rowB ((List.range n).map f) = true) ?_ ?_
      · refine WP_for 11 n (fun j st g => st 4 = .ptr 1 0 ∧ st 5 = .ptr 2 0 ∧ st 6 = I n ∧ st 7 = .ptr 3 0 ∧ st 8 = I i ∧ st 9 = .sl J 0 n 1 ∧ g.nx = J + 1 ∧ (∀ id, id < J → g.bl id = h.bl id) ∧ ∃ f left, st 10 = I left ∧ g.bl J = some (.cells false true (vecA f n)) ∧ rowI f left j) (by simp (disch := first | (simp only [go_sem, gb0, eq_self]; done) | omega | (simp only [gl1, gl2]; omega)) only [go_sem, ↓reduceIte, Nat.reduceEqDiff, Nat.reduceAdd, Nat.reduceMul, Nat.reduceSub, Int.reduceToNat, Nat.reduceBEq])
          ⟨by simp (disch := first | (simp only [go_sem, gb0, eq_self]; done) | omega | (simp only [gl1, gl2]; omega)) only [go_sem, ↓reduceIte, Nat.reduceEqDiff, Nat.reduceAdd, Nat.reduceMul, Nat.reduceSub, Int.reduceToNat, Nat.reduceBEq, s4], by simp (disch := first | (simp only [go_sem, gb0, eq_self]; done) | omega | (simp only [gl1, gl2]; omega)) only [go_sem, ↓reduceIte, Nat.reduceEqDiff, Nat.reduceAdd, Nat.reduceMul, Nat.reduceSub, Int.reduceToNat, Nat.reduceBEq, s5], by simp (disch := first | (simp only [go_sem, gb0, eq_self]; done) | omega | (simp only [gl1, gl2]; omega)) only [go_sem, ↓reduceIte, Nat.reduceEqDiff, Nat.reduceAdd, Nat.reduceMul, Nat.reduceSub, Int.reduceToNat, Nat.reduceBEq, s6], by simp (disch := first | (simp only [go_sem, gb0, eq_self]; done) | omega | (simp only [gl1, gl2]; omega)) only [go_sem, ↓reduceIte, Nat.reduceEqDiff, Nat.reduceAdd, Nat.reduceMul, Nat.reduceSub, Int.reduceToNat, Nat.reduceBEq, s7], by simp (disch := first | (simp only [go_sem, gb0, eq_self]; done) | omega | (simp only [gl1, gl2]; omega)) only [go_sem, ↓reduceIte, Nat.reduceEqDiff, Nat.reduceAdd, Nat.reduceMul, Nat.reduceSub, Int.reduceToNat, Nat.reduceBEq, s8], by simp (disch := first | (simp only [go_sem, gb0, eq_self]; done) | omega | (simp only [gl1, gl2]; omega)) only [go_sem, ↓reduceIte, Nat.reduceEqDiff, Nat.reduceAdd, Nat.reduceMul, Nat.reduceSub, Int.reduceToNat, Nat.reduceBEq], by simp (disch := first | (simp only [go_sem, gb0, eq_self]; done) | omega | (simp only [gl1, gl2]; omega)) only [go_sem, ↓reduceIte, Nat.reduceEqDiff, Nat.reduceAdd, Nat.reduceMul, Nat.reduceSub, Int.reduceToNat, Nat.reduceBEq]; omega, fun id hid => by rw [alloc_bl, if_neg (by omega)], fun _ => 0, 4, by simp (disch := first | (simp only [go_sem, gb0, eq_self]; done) | omega | (simp only [gl1, gl2]; omega)) only [go_sem, ↓reduceIte, Nat.reduceEqDiff, Nat.reduceAdd, Nat.reduceMul, Nat.reduceSub, Int.reduceToNat, Nat.reduceBEq], by simp (disch := first | (simp only [go_sem, gb0, eq_self]; done) | omega | (simp only [gl1, gl2]; omega)) only [go_sem, ↓reduceIte, Nat.reduceEqDiff, Nat.reduceAdd, Nat.reduceMul, Nat.reduceSub, Int.reduceToNat, Nat.reduceBEq, hJ], ⟨by decide, by decide, rfl, fun _ => ⟨Int.le_refl 0, show (0 : Int) ≤ 4 by decide⟩, fun _ _ => rfl⟩⟩ ?_
        rintro j st g hj s11 ⟨s4, s5, s6, s7, s8, s9, gn, go, f, left, s10, gJ, hr⟩
        have fin : ∃ f, g.bl J = some (.cells false true (vecA f n)) ∧ rowB ((List.range n).map f) = true := ⟨f, gJ, rowB_of (fun k _ => hr.2.2.2.1 k) (hr.sum hj)⟩
        by_cases hjn : j < n
        case neg =>
          simp (disch := first | (simp only [go_sem, gb0, eq_self]; done) | omega | (simp only [gl1, gl2]; omega)) only [go_sem, ↓reduceIte, Nat.reduceEqDiff, Nat.reduceAdd, Nat.reduceMul, Nat.reduceSub, Int.reduceToNat, Nat.reduceBEq, s4, s5, s6, s7, s8, s9, s10, s11, hjn]
          exact ⟨gn, go, fin⟩
        have g2 : g.bl 2 = some (.cells false false [f0, LI pay2, LI cost2]) := (go 2 (by omega)).trans b2
        by_cases hin : i < nx2.length
        case neg =>
          have hin' : ¬ (i : Int) < nx2.length := by omega
          simp (disch := first | (simp only [go_sem, gb0, eq_self]; done) | omega | (simp only [gl1, gl2]; omega)) only [go_sem, ↓reduceIte, Nat.reduceEqDiff, Nat.reduceAdd, Nat.reduceMul, Nat.reduceSub, Int.reduceToNat, Nat.reduceBEq, s4, s5, s6, s7, s8, s9, s10, s11, hjn, g2, hlen, hin']
          exact ⟨gn, go, fin⟩
        have hin' : (i : Int) < nx2.length := by omega
        have he : f0 = LLI nx2 := by rw [hf0, if_neg (fun e => by rw [e] at hin; cases hin)]
        rw [he] at g2
        have kat := fun h h' K => ConW_num (h := h) (h' := h') (K := K) (f36_con (nth nx2 i) (hk2.row _ (nth_mem hin)) j) rfl
        have k5 := fun h h' K => ConW_num (h := h) (h' := h') (K := K) (f18_con (nth (nth nx2 i) j) 5 (by decide)) rfl
        have hb5 := modI_bounds (nth (nth nx2 i) j) (n := 5) (by decide)
        have hr2 := hr.step (x := modI (nth (nth nx2 i) j) 5) (by omega)
        have hjn' : (j : Int) < n := by omega
        have nJ2 : ¬ 2 = J := by omega
        obtain ⟨x, hx⟩ : ∃ x, x = min left (modI (nth (nth nx2 i) j) 5) := ⟨_, rfl⟩
        rw [← hx] at hr2
        have hl0 := hr.1
        have hl4 := hr.2.1
        have hx0 : 0 ≤ x ∧ x ≤ 4 := by omega
        have hgs : (vecA (setV f j x) n)[j]? = some (I x) := by rw [vecA_get _ _ _ hjn, setV, if_pos rfl]
        simp (disch := first | (simp only [go_sem, gb0, eq_self]; done) | omega | (simp only [gl1, gl2]; omega)) only [go_sem, ↓reduceIte, Nat.reduceEqDiff, Nat.reduceAdd, Nat.reduceMul, Nat.reduceSub, Int.reduceToNat, Nat.reduceBEq, s4, s5, s6, s7, s8, s9, s10, s11, hjn, hjn', g2, hin, hin', kat, k5, ← hx, gJ, hgs]
        rw [ForK_normal]
        exact ⟨hjn, by simp (disch := first | (simp only [go_sem, gb0, eq_self]; done) | omega | (simp only [gl1, gl2]; omega)) only [go_sem, ↓reduceIte, Nat.reduceEqDiff, Nat.reduceAdd, Nat.reduceMul, Nat.reduceSub, Int.reduceToNat, Nat.reduceBEq, s11], by simp (disch := first | (simp only [go_sem, gb0, eq_self]; done) | omega | (simp only [gl1, gl2]; omega)) only [go_sem, ↓reduceIte, Nat.reduceEqDiff, Nat.reduceAdd, Nat.reduceMul, Nat.reduceSub, Int.reduceToNat, Nat.reduceBEq, s4], by simp (disch := first | (simp only [go_sem, gb0, eq_self]; done) | omega | (simp only [gl1, gl2]; omega)) only [go_sem, ↓reduceIte, Nat.reduceEqDiff, Nat.reduceAdd, Nat.reduceMul, Nat.reduceSub, Int.reduceToNat, Nat.reduceBEq, s5], by simp (disch := first | (simp only [go_sem, gb0, eq_self]; done) | omega | (simp only [gl1, gl2]; omega)) only [go_sem, ↓reduceIte, Nat.reduceEqDiff, Nat.reduceAdd, Nat.reduceMul, Nat.reduceSub, Int.reduceToNat, Nat.reduceBEq, s6], by simp (disch := first | (simp only [go_sem, gb0, eq_self]; done) | omega | (simp only [gl1, gl2]; omega)) only [go_sem, ↓reduceIte, Nat.reduceEqDiff, Nat.reduceAdd, Nat.reduceMul, Nat.reduceSub, Int.reduceToNat, Nat.reduceBEq, s7], by simp (disch := first | (simp only [go_sem, gb0, eq_self]; done) | omega | (simp only [gl1, gl2]; omega)) only [go_sem, ↓reduceIte, Nat.reduceEqDiff, Nat.reduceAdd, Nat.reduceMul, Nat.reduceSub, Int.reduceToNat, Nat.reduceBEq, s8], by simp (disch := first | (simp only [go_sem, gb0, eq_self]; done) | omega | (simp only [gl1, gl2]; omega)) only [go_sem, ↓reduceIte, Nat.reduceEqDiff, Nat.reduceAdd, Nat.reduceMul, Nat.reduceSub, Int.reduceToNat, Nat.reduceBEq, s9], by simp (disch := first | (simp only [go_sem, gb0, eq_self]; done) | omega | (simp only [gl1, gl2]; omega)) only [go_sem, ↓reduceIte, Nat.reduceEqDiff, Nat.reduceAdd, Nat.reduceMul, Nat.reduceSub, Int.reduceToNat, Nat.reduceBEq, gn], fun id hid => by simp (disch := first | (simp only [go_sem, gb0, eq_self]; done) | omega | (simp only [gl1, gl2]; omega)) only [go_sem, ↓reduceIte, Nat.reduceEqDiff, Nat.reduceAdd, Nat.reduceMul, Nat.reduceSub, Int.reduceToNat, Nat.reduceBEq]; rw [if_neg (by omega)]; exact go id hid, setV f j x, left - x, by simp (disch := first | (simp only [go_sem, gb0, eq_self]; done) | omega | (simp only [gl1, gl2]; omega)) only [go_sem, ↓reduceIte, Nat.reduceEqDiff, Nat.reduceAdd, Nat.reduceMul, Nat.reduceSub, Int.reduceToNat, Nat.reduceBEq], by simp (disch := first | (simp only [go_sem, gb0, eq_self]; done) | omega | (simp only [gl1, gl2]; omega)) only [go_sem, ↓reduceIte, Nat.reduceEqDiff, Nat.reduceAdd, Nat.reduceMul, Nat.reduceSub, Int.reduceToNat, Nat.reduceBEq], hr2⟩
      · rintro st g ⟨s4, s5, s6, s7, s8, s9, gn, go, f, gJ, hrow⟩
        have g1 := (go 1 (by omega)).trans b1
        have g2 := (go 2 (by omega)).trans b2
        have g3 := (go 3 (by omega)).trans b3
        have gov := ov.mono (h' := g) (by omega) fun id hid => go id (by omega)
        have gow := ow.mono (h' := g) (by omega) fun id hid => go id (by omega)
        have gou := ou.mono (h' := g) (by omega) fun id hid => go id (by omega)
        obtain ⟨r, hrr⟩ : ∃ r, r = (List.range n).map f := ⟨_, rfl⟩
        have hrl : r.length = n := by rw [hrr]; simp
        have hse0 := seal_vec gJ
        rw [← hrr] at hse0 hrow
        obtain ⟨G, hG⟩ : ∃ G, G = g.put J (some (.cells true true (vecA f n))) := ⟨_, rfl⟩
        rw [← hG] at hse0
        have Gn : G.nx = J + 1 := by rw [hG]; exact gn
        have Go' : ∀ id, id < J → G.bl id = g.bl id := fun id hid => by rw [hG, put_bl, if_neg (by omega)]
        have Gh : ∀ id, id < h.nx → G.bl id = h.bl id := fun id hid => (Go' id (by omega)).trans (go id (by omega))
        have Gov := ov.mono (h' := G) (by omega) Gh
        have Gow := ow.mono (h' := G) (by omega) Gh
        have Gou := ou.mono (h' := G) (by omega) Gh
        have G1 := (Gh 1 (by omega)).trans b1
        have G2 := (Gh 2 (by omega)).trans b2
        have G3 := (Gh 3 (by omega)).trans b3
        have lR := hg.1.1
        have lP := hg.1.2.1
        have lC := hg.1.2.2
        have cw := own_cell ow
        have cu := own_cell ou
        have kp := fun h h' K => ConW_num (h := h) (h' := h') (K := K) (f36_con pay2 hk2.p i) rfl
        have kc := fun h h' K => ConW_num (h := h) (h' := h') (K := K) (f36_con cost2 hk2.c i) rfl
        have k1001 := fun h h' K => ConW_num (h := h) (h' := h') (K := K) (f18_con (nth pay2 i) 1001 (by decide)) rfl
        have k101 := fun h h' K => ConW_num (h := h) (h' := h') (K := K) (f18_con (nth cost2 i) 101 (by decide)) rfl
        have hpb := modI_bounds (nth pay2 i) (n := 1001) (by decide)
        have hcb := modI_bounds (nth cost2 i) (n := 101) (by decide)
        obtain ⟨p, hp⟩ : ∃ p, p = modI (nth pay2 i) 1001 := ⟨_, rfl⟩
        obtain ⟨c, hc⟩ : ∃ c, c = modI (nth cost2 i) 101 := ⟨_, rfl⟩
        rw [← hp] at k1001 hpb
        rw [← hc] at k101 hcb
        have hbs1 := bsB_one (P := Try.prog) 23 (.sl J 0 n 1) (LI r) .nil G isz23 izero23 rfl rfl rfl hse0 rfl rfl (pure_L _)
        have hbs2 := fun h => bsB_one (P := Try.prog) 3 (I p) (I p) (I 0) h isz3 izero3 rfl rfl rfl rfl rfl rfl rfl
        have hbs3 := fun h => bsB_one (P := Try.prog) 3 (I c) (I c) (I 0) h isz3 izero3 rfl rfl rfl rfl rfl rfl rfl
        -- the row goes in
        have happ1 := app_one (P := Try.prog) Gov 23 24 .nil r isz23 ibytes23 izero23 rfl (by omega) (by omega)
        obtain ⟨An, Ab, Ao, Ak⟩ := app_step Gov (R ++ [r])
        have hV1 : appV G (R ++ [r]).length 1 = .sl G.nx 0 (R ++ [r]).length 1 := rfl
        obtain ⟨Aow, e1w⟩ := Ak Gow d1
        obtain ⟨Aou, e1u⟩ := Ak Gou d2
        rw [hV1] at happ1 Ao e1w e1u
        have A1 := Ab 1 _ _ G1 (by omega)
        have A2 := Ab 2 _ _ G2 (by omega)
        have A3 := Ab 3 _ _ G3 (by omega)
        clear Ak Ab
        generalize appH G v ((R ++ [r]).flatMap (e1 LI)) = A at *
        obtain ⟨V1, hV1e⟩ : ∃ V1, V1 = AV.sl G.nx 0 (R ++ [r]).length 1 := ⟨_, rfl⟩
        rw [← hV1e] at happ1 Ao e1w e1u
        have lV1 : V1.cells = [V1] := by rw [hV1e]; rfl
        have cV1 := own_cell Ao
        have hst1 : storeC A 3 0 1 (some (.cells false false [v, w, u])) [V1] = some (.skp, A.put 3 (some (.cells false false [V1, w, u]))) := by simp [storeC, setL, cV1, cw, cu]
        obtain ⟨A', hA'⟩ : ∃ A', A' = A.put 3 (some (.cells false false [V1, w, u])) := ⟨_, rfl⟩
        have A'o := own_put Ao A3 (some (.cells false false [V1, w, u]))
        have A'ow := own_put Aow A3 (some (.cells false false [V1, w, u]))
        have A'ou := own_put Aou A3 (some (.cells false false [V1, w, u]))
        rw [← hA'] at A'o A'ow A'ou hst1
        have A'n : A'.nx = J + 2 := by rw [hA']; show A.nx = _; omega
        have A'1 : A'.bl 1 = some (.cells false false [.nil, .nil, .nil]) := by rw [hA', put_bl, if_neg (by decide)]; exact A1
        have A'2 : A'.bl 2 = some (.cells false false [f0, LI pay2, LI cost2]) := by rw [hA', put_bl, if_neg (by decide)]; exact A2
        have A'3 : A'.bl 3 = some (.cells false false [V1, w, u]) := by rw [hA', put_bl, if_pos rfl]
        -- the pay
        have happ2 := app_one (P := Try.prog) A'ow 3 8 (I 0) p isz3 ibytes3 izero3 rfl (by omega) (by omega)
        obtain ⟨Bn, Bb, Bo, Bk⟩ := app_step A'ow (P ++ [p])
        have hV2 : appV A' (P ++ [p]).length 1 = .sl A'.nx 0 (P ++ [p]).length 1 := rfl
        obtain ⟨Bov, e2v⟩ := Bk A'o e1w.symm
        obtain ⟨Bou, e2u⟩ := Bk A'ou d3
        rw [hV2] at happ2 Bo e2v e2u
        have B1 := Bb 1 _ _ A'1 (by omega)
        have B2 := Bb 2 _ _ A'2 (by omega)
        have B3 := Bb 3 _ _ A'3 (by omega)
        clear Bk Bb
        generalize appH A' w ((P ++ [p]).flatMap (e1 I)) = B at *
        obtain ⟨V2, hV2e⟩ : ∃ V2, V2 = AV.sl A'.nx 0 (P ++ [p]).length 1 := ⟨_, rfl⟩
        rw [← hV2e] at happ2 Bo e2v e2u
        have lV2 : V2.cells = [V2] := by rw [hV2e]; rfl
        have cV2 := own_cell Bo
        have hst2 : storeC B 3 1 1 (some (.cells false false [V1, w, u])) [V2] = some (.skp, B.put 3 (some (.cells false false [V1, V2, u]))) := by simp [storeC, setL, cV1, cV2, cu]
        obtain ⟨B', hB'⟩ : ∃ B', B' = B.put 3 (some (.cells false false [V1, V2, u])) := ⟨_, rfl⟩
        have B'o := own_put Bo B3 (some (.cells false false [V1, V2, u]))
        have B'ov := own_put Bov B3 (some (.cells false false [V1, V2, u]))
        have B'ou := own_put Bou B3 (some (.cells false false [V1, V2, u]))
        rw [← hB'] at B'o B'ov B'ou hst2
        have B'n : B'.nx = J + 3 := by rw [hB']; show B.nx = _; omega
        have B'1 : B'.bl 1 = some (.cells false false [.nil, .nil, .nil]) := by rw [hB', put_bl, if_neg (by decide)]; exact B1
        have B'2 : B'.bl 2 = some (.cells false false [f0, LI pay2, LI cost2]) := by rw [hB', put_bl, if_neg (by decide)]; exact B2
        have B'3 : B'.bl 3 = some (.cells false false [V1, V2, u]) := by rw [hB', put_bl, if_pos rfl]
        -- the cost
        have happ3 := app_one (P := Try.prog) B'ou 3 8 (I 0) c isz3 ibytes3 izero3 rfl (by omega) (by omega)
        obtain ⟨Dn, Db, Do, Dk⟩ := app_step B'ou (C ++ [c])
        have hV3 : appV B' (C ++ [c]).length 1 = .sl B'.nx 0 (C ++ [c]).length 1 := rfl
        obtain ⟨Dov, e3v⟩ := Dk B'ov e1u.symm
        obtain ⟨Dow, e3w⟩ := Dk B'o e2u.symm
        rw [hV3] at happ3 Do e3v e3w
        have D1 := Db 1 _ _ B'1 (by omega)
        have D2 := Db 2 _ _ B'2 (by omega)
        have D3 := Db 3 _ _ B'3 (by omega)
        clear Dk Db
        generalize appH B' u ((C ++ [c]).flatMap (e1 I)) = D at *
        obtain ⟨V3, hV3e⟩ : ∃ V3, V3 = AV.sl B'.nx 0 (C ++ [c]).length 1 := ⟨_, rfl⟩
        rw [← hV3e] at happ3 Do e3v e3w
        have lV3 : V3.cells = [V3] := by rw [hV3e]; rfl
        have cV3 := own_cell Do
        have hst3 : storeC D 3 2 1 (some (.cells false false [V1, V2, u])) [V3] = some (.skp, D.put 3 (some (.cells false false [V1, V2, V3]))) := by simp [storeC, setL, cV1, cV2, cV3]
        obtain ⟨D', hD'⟩ : ∃ D', D' = D.put 3 (some (.cells false false [V1, V2, V3])) := ⟨_, rfl⟩
        have D'o := own_put Do D3 (some (.cells false false [V1, V2, V3]))
        have D'ov := own_put Dov D3 (some (.cells false false [V1, V2, V3]))
        have D'ow := own_put Dow D3 (some (.cells false false [V1, V2, V3]))
        rw [← hD'] at D'o D'ov D'ow hst3
        have D'n : D'.nx = J + 4 := by rw [hD']; show D.nx = _; omega
        have D'1 : D'.bl 1 = some (.cells false false [.nil, .nil, .nil]) := by rw [hD', put_bl, if_neg (by decide)]; exact D1
        have D'2 : D'.bl 2 = some (.cells false false [f0, LI pay2, LI cost2]) := by rw [hD', put_bl, if_neg (by decide)]; exact D2
        have D'3 : D'.bl 3 = some (.cells false false [V1, V2, V3]) := by rw [hD', put_bl, if_pos rfl]
        have hg2 := hg.snoc hrl (p := p) (c := c) (by rw [inB, decide_eq_true (by omega), decide_eq_true (by omega)]; rfl) (by rw [inB, decide_eq_true (by omega), decide_eq_true (by omega)]; rfl) hrow
        simp (maxSteps := 3000000) (disch := first | (simp only [go_sem, gb0, eq_self]; done) | omega | (simp only [gl1, gl2]; omega)) only [go_sem, ↓reduceIte, Nat.reduceEqDiff, Nat.reduceAdd, Nat.reduceMul, Nat.reduceSub, Int.reduceToNat, Nat.reduceBEq, s4, s5, s6, s7, s8, s9, g3, hbs1, happ1, A3, lV1, hst1, A'2, A'3, kp, k1001, hbs2, happ2, B3, lV2, hst2, B'2, B'3, kc, k101, hbs3, happ3, D3, lV3, hst3, List.filterMap_cons, List.filterMap_nil, List.contains_nil, List.contains_cons, Bool.not_false, Bool.not_true, Bool.or_true, Bool.true_or, List.nil_append, List.cons_append, Nat.reduceLT, decide_true, decide_false, List.drop_succ_cons]
        rw [ForK_normal]
        exact ⟨hlt, by simp (disch := first | (simp only [go_sem, gb0, eq_self]; done) | omega | (simp only [gl1, gl2]; omega)) only [go_sem, ↓reduceIte, Nat.reduceEqDiff, Nat.reduceAdd, Nat.reduceMul, Nat.reduceSub, Int.reduceToNat, Nat.reduceBEq, s8], by simp (disch := first | (simp only [go_sem, gb0, eq_self]; done) | omega | (simp only [gl1, gl2]; omega)) only [go_sem, ↓reduceIte, Nat.reduceEqDiff, Nat.reduceAdd, Nat.reduceMul, Nat.reduceSub, Int.reduceToNat, Nat.reduceBEq, s4], by simp (disch := first | (simp only [go_sem, gb0, eq_self]; done) | omega | (simp only [gl1, gl2]; omega)) only [go_sem, ↓reduceIte, Nat.reduceEqDiff, Nat.reduceAdd, Nat.reduceMul, Nat.reduceSub, Int.reduceToNat, Nat.reduceBEq, s5], by simp (disch := first | (simp only [go_sem, gb0, eq_self]; done) | omega | (simp only [gl1, gl2]; omega)) only [go_sem, ↓reduceIte, Nat.reduceEqDiff, Nat.reduceAdd, Nat.reduceMul, Nat.reduceSub, Int.reduceToNat, Nat.reduceBEq, s6], by simp (disch := first | (simp only [go_sem, gb0, eq_self]; done) | omega | (simp only [gl1, gl2]; omega)) only [go_sem, ↓reduceIte, Nat.reduceEqDiff, Nat.reduceAdd, Nat.reduceMul, Nat.reduceSub, Int.reduceToNat, Nat.reduceBEq, s7], by omega, D'1, D'2, V1, V2, V3, D'3, R ++ [r], P ++ [p], C ++ [c], D'ov, D'ow, D'o, e2v.symm, e3v.symm, e3w.symm, hg2⟩
    · rintro st h ⟨s4, s7, hnx, b1, v, w, u, b3, R, P, C, ov, ow, ou, d1, d2, d3, hg⟩
      have cv := own_cell ov
      have cw := own_cell ow
      have cu := own_cell ou
      have hs3 : storeC h 1 0 3 (some (.cells false false [.nil, .nil, .nil])) [v, w, u] = some (.skp, h.put 1 (some (.cells false false [v, w, u]))) := by simp [storeC, setL, cv, cw, cu]
      have hR0 : 0 < R.length := by rw [hg.1.1]; omega
      simp (disch := first | (simp only [go_sem, gb0, eq_self]; done) | omega | (simp only [gl1, gl2]; omega)) only [go_sem, ↓reduceIte, Nat.reduceEqDiff, Nat.reduceAdd, Nat.reduceMul, Nat.reduceSub, Int.reduceToNat, Nat.reduceBEq, s4, s7, b1, b3, hs3]
      refine ⟨chA R P C, ⟨R, P, C, hg, rfl⟩, ?_⟩
      simp (disch := first | (simp only [go_sem, gb0, eq_self]; done) | omega | (simp only [gl1, gl2]; omega)) only [go_sem, ↓reduceIte, Nat.reduceEqDiff, Nat.reduceAdd, Nat.reduceMul, Nat.reduceSub, Int.reduceToNat, Nat.reduceBEq, s4, s7, b1, b3, hs3]
      exact export_ch3 25 (own_put ov b1 _) (own_put ow b1 _) (own_put ou b1 _) d1 d2 d3 hR0)
end Go.Proofs.Ytgamcclfdkpcgaa

set_option linter.unusedVariables false
set_option linter.unusedSimpArgs false
set_option maxRecDepth 10000
namespace Go.Proofs.Ytgamcclfdkpcgaa
open Go Go.Am

variable {h h' : Hp} {K : AV → Hp → Prop}

theorem rdP_absN {a b : Int} (hb : 0 < b) : -absI a ≤ (rdP a b).1 ∧ (rdP a b).1 ≤ absI a := by
  have hg := gcdI_pos (a := a) (b := b) (by omega)
  have := div_rng hg (gcdI_dvd a b).1
  rw [rdP_pos hb]
  exact this
theorem cmp_lt (p q : Int × Int) : decide (cmpP p q < 0) = decide (p.1 * q.2 < q.1 * p.2) := by
  unfold cmpP
  by_cases c1 : p.1 * q.2 < q.1 * p.2
  · rw [if_pos c1, decide_eq_true c1]; rfl
  · rw [if_neg c1, decide_eq_false c1]
    split <;> rfl
theorem mul_bd {a b A B : Int} (ha : -A ≤ a ∧ a ≤ A) (hb : -B ≤ b ∧ b ≤ B) : -(A * B) ≤ a * b ∧ a * b ≤ A * B := by
  refine absI_le.1 ?_
  rw [absI_mul]
  exact Int.mul_le_mul (absI_le.2 ha) (absI_le.2 hb) (absI_nonneg _) (by omega)

theorem f69_con {nx : List (List Int)} {pay cost : List Int} (C : okC nx pay cost) (x : Nat) (hs : sndP nx.length (wF nx) (ruleB x)) : Con Try.prog cfg 69 [chA nx pay cost, LP (valL nx pay cost x)] (.bool (supB nx.length (wF nx) (pF pay) (pF cost) x)) := by
  obtain ⟨n, hn⟩ : ∃ n, n = nx.length := ⟨_, rfl⟩
  have hn1 := C.n1
  have hn6 := C.n6
  have hlp := C.lp
  have hlc := C.lc
  have hal : ∀ g : Hp, allocB g (some (chA nx pay cost)) = some (.ptr g.nx 0, g.alloc (.cells false false [LLI nx, LI pay, LI cost])) := fun g => allocB_agg _ rfl
  obtain ⟨V, hV⟩ : ∃ V, V = VN nx.length (wF nx) (pF pay) (pF cost) (ruleB x) := ⟨_, rfl⟩
  obtain ⟨D, hD⟩ : ∃ D, D = DN nx.length (wF nx) (pF pay) (pF cost) (ruleB x) := ⟨_, rfl⟩
  have hDp : 0 < D := by rw [hD]; exact (vals_of C.chn hs (by omega)).pos
  have hDb : D ≤ 262144 := by have := DN_b C.chn hs; have := bE6 hn6; rw [hD]; exact Int.le_trans (DN_b C.chn hs) (bE6 hn6)
  have hVb : ∀ i, i < n → -3188646000 ≤ V i ∧ V i ≤ 3188646000 := fun i hi => by
    have h1 : -bC nx.length ≤ V i ∧ V i ≤ bC nx.length := by rw [hV]; exact VN_b C.chn hs (by omega)
    have := bC6 hn6
    omega
  have hvl : (valL nx pay cost x).length = n := by simp [valL, hn]
  have hvn : ∀ i, i < n → nth (valL nx pay cost x) i = rdP (V i) D := fun i hi => by
    rw [valL, nth_map_range _ _ _ (by omega), hV, hD]
  have hsup : supB nx.length (wF nx) (pF pay) (pF cost) x = true ↔ ∀ i, i < n → nth pay i * D ≤ V i ∧ sumN (fun j => nth (nth nx i) j * V j) n - 4 * nth cost i * D ≤ 4 * V i := by
    rw [supB_iff, hV, hD, hn]; rfl
  generalize supB nx.length (wF nx) (pF pay) (pF cost) x = b at *
  have hno : ∀ i, i < n → ¬ (nth pay i * D ≤ V i ∧ sumN (fun j => nth (nth nx i) j * V j) n - 4 * nth cost i * D ≤ 4 * V i) → b = false := fun i hi h => by
    cases b with
    | false => rfl
    | true => exact (h (hsup.1 rfl i hi)).elim
  refine Con_intro Try.func69 rfl ok69 (Nat.le_of_ble_eq_true rfl) rfl ?_
  simp only [Try.f69, Option.getD_some, initSt2]
  simp (disch := first | (simp only [go_sem, gb0, eq_self]; done) | omega | (simp only [gl1, gl2]; omega)) only [go_sem, ↓reduceIte, Nat.reduceEqDiff, Nat.reduceAdd, Nat.reduceMul, Nat.reduceSub, Int.reduceToNat, Nat.reduceBEq, hal]
  refine WP_for 15 n (fun i st h => st 1 = LP (valL nx pay cost x) ∧ st 2 = .ptr 0 0 ∧ st 13 = LLI nx ∧ st 14 = I n ∧ h.nx = 1 ∧ h.bl 0 = some (.cells false false [LLI nx, LI pay, LI cost]) ∧ ∀ k, k < i → nth pay k * D ≤ V k ∧ sumN (fun j => nth (nth nx k) j * V j) n - 4 * nth cost k * D ≤ 4 * V k) (by simp (disch := first | (simp only [go_sem, gb0, eq_self]; done) | omega | (simp only [gl1, gl2]; omega)) only [go_sem, ↓reduceIte, Nat.reduceEqDiff, Nat.reduceAdd, Nat.reduceMul, Nat.reduceSub, Int.reduceToNat, Nat.reduceBEq])
    ⟨by simp (disch := first | (simp only [go_sem, gb0, eq_self]; done) | omega | (simp only [gl1, gl2]; omega)) only [go_sem, ↓reduceIte, Nat.reduceEqDiff, Nat.reduceAdd, Nat.reduceMul, Nat.reduceSub, Int.reduceToNat, Nat.reduceBEq], by simp (disch := first | (simp only [go_sem, gb0, eq_self]; done) | omega | (simp only [gl1, gl2]; omega)) only [go_sem, ↓reduceIte, Nat.reduceEqDiff, Nat.reduceAdd, Nat.reduceMul, Nat.reduceSub, Int.reduceToNat, Nat.reduceBEq], by simp (disch := first | (simp only [go_sem, gb0, eq_self]; done) | omega | (simp only [gl1, gl2]; omega)) only [go_sem, ↓reduceIte, Nat.reduceEqDiff, Nat.reduceAdd, Nat.reduceMul, Nat.reduceSub, Int.reduceToNat, Nat.reduceBEq], by simp (disch := first | (simp only [go_sem, gb0, eq_self]; done) | omega | (simp only [gl1, gl2]; omega)) only [go_sem, ↓reduceIte, Nat.reduceEqDiff, Nat.reduceAdd, Nat.reduceMul, Nat.reduceSub, Int.reduceToNat, Nat.reduceBEq, hn], by simp (disch := first | (simp only [go_sem, gb0, eq_self]; done) | omega | (simp only [gl1, gl2]; omega)) only [go_sem, ↓reduceIte, Nat.reduceEqDiff, Nat.reduceAdd, Nat.reduceMul, Nat.reduceSub, Int.reduceToNat, Nat.reduceBEq], by simp (disch := first | (simp only [go_sem, gb0, eq_self]; done) | omega | (simp only [gl1, gl2]; omega)) only [go_sem, ↓reduceIte, Nat.reduceEqDiff, Nat.reduceAdd, Nat.reduceMul, Nat.reduceSub, Int.reduceToNat, Nat.reduceBEq], fun k hk => by omega⟩ ?_
  rintro i st h hi s15 ⟨s1, s2, s13, s14, hnx, b0, hall⟩
  by_cases hlt : i < n
  case neg =>
    have hb : b = true := hsup.2 fun k hk => hall k (by omega)
    simp (disch := first | (simp only [go_sem, gb0, eq_self]; done) | omega | (simp only [gl1, gl2]; omega)) only [go_sem, ↓reduceIte, Nat.reduceEqDiff, Nat.reduceAdd, Nat.reduceMul, Nat.reduceSub, Int.reduceToNat, Nat.reduceBEq, s1, s2, s13, s14, s15, hlt, hb]
  have hi1 : i < nx.length := by omega
  have hi1' : (i : Int) < nx.length := by omega
  have hiv : i < (valL nx pay cost x).length := by omega
  have hiv' : (i : Int) < (valL nx pay cost x).length := by omega
  have hip : i < pay.length := by omega
  have hip' : (i : Int) < pay.length := by omega
  have hic : i < cost.length := by omega
  have hic' : (i : Int) < cost.length := by omega
  have hpb := C.pb hi1
  have hcb := C.cb hi1
  have hrow := C.row i hi1
  have hVi := hVb i hlt
  have vd := rdP_den (a := V i) hDp
  have vn := rdP_absN (a := V i) hDp
  have hvi := hvn i hlt
  have z0 : 0 < h.nx := by omega
  have hcmp : (rdP (V i) D).1 * 1 < nth pay i * (rdP (V i) D).2 ↔ V i < nth pay i * D := by
    have := lessP_rd (a := V i) (c := nth pay i) hDp (show (0 : Int) < 1 by decide)
    rw [rdP_one] at this
    unfold lessQ at this
    simp only [Int.mul_one] at this ⊢
    exact this
  have mb1 := mul_bd (a := nth pay i) (b := (rdP (V i) D).2) (A := 1000) (B := 262144) (by omega) (by omega)
  have habs : absI (V i) ≤ 3188646000 := absI_le.2 hVi
  have k52 := fun h h' K => ConW_num (h := h) (h' := h') (K := K) (f52_con (rdP (V i) D) (nth pay i, 1) (by simp only [big]; omega) (by simp only [big]; omega)) rfl
  by_cases hp : V i < nth pay i * D
  · have hb := hno i hlt (fun h => by omega)
    have hc : decide (cmpP (rdP (V i) D) (nth pay i, 1) < 0) = true := by rw [cmp_lt]; exact decide_eq_true (hcmp.2 hp)
    simp (disch := first | (simp only [go_sem, gb0, eq_self]; done) | omega | (simp only [gl1, gl2]; omega)) only [go_sem, ↓reduceIte, Nat.reduceEqDiff, Nat.reduceAdd, Nat.reduceMul, Nat.reduceSub, Int.reduceToNat, Nat.reduceBEq, s1, s2, s13, s14, s15, hlt, hi1, hi1', hiv, hiv', hip, hip', hvi, b0, z0, k52, hc, hb, List.drop_succ_cons]
  have hc : decide (cmpP (rdP (V i) D) (nth pay i, 1) < 0) = false := by rw [cmp_lt]; exact decide_eq_false fun h => hp (hcmp.1 h)
  simp (disch := first | (simp only [go_sem, gb0, eq_self]; done) | omega | (simp only [gl1, gl2]; omega)) only [go_sem, ↓reduceIte, Nat.reduceEqDiff, Nat.reduceAdd, Nat.reduceMul, Nat.reduceSub, Int.reduceToNat, Nat.reduceBEq, s1, s2, s13, s14, s15, hlt, hi1, hi1', hiv, hiv', hip, hip', hic, hic', hvi, b0, z0, k52, hc, List.drop_succ_cons]
  -- going on once
  obtain ⟨S, hS⟩ : ∃ S : Nat → Int, S = fun m => sumN (fun j => nth (nth nx i) j * V j) m - 4 * nth cost i * D := ⟨_, rfl⟩
  have hSb : ∀ m, m ≤ n → -80000000000 ≤ S m ∧ S m ≤ 80000000000 := fun m hm => by
    have h1 := sumN_bounds (f := fun j => nth (nth nx i) j * V j) (lo := -12754584000) (hi := 12754584000) (n := m) fun j hj => by
      have h2 := C.wb hi1 (show j < nx.length by omega)
      have h3 := hVb j (by omega)
      have := mul_bd (a := nth (nth nx i) j) (b := V j) (A := 4) (B := 3188646000) (by omega) (by omega)
      omega
    have h2 := mul_bd (a := 4 * nth cost i) (b := D) (A := 400) (B := 262144) (by omega) (by omega)
    have h3 : (m : Int) ≤ 6 := by omega
    rw [hS]
    show -80000000000 ≤ sumN (fun j => nth (nth nx i) j * V j) m - 4 * nth cost i * D ∧ sumN (fun j => nth (nth nx i) j * V j) m - 4 * nth cost i * D ≤ 80000000000
    omega
  have hS0 : rdP (S 0) D = (-4 * nth cost i, 1) := by
    have : S 0 = (-4 * nth cost i) * D := by rw [hS]; simp only [sumN]; grind
    rw [this]; exact rdP_whole _ hDp
  have hSs : ∀ m, S (m + 1) = S m + nth (nth nx i) m * V m := fun m => by rw [hS]; simp only [sumN]; omega
  have hSn : S n = sumN (fun j => nth (nth nx i) j * V j) n - 4 * nth cost i * D := by rw [hS]
  refine WP_cut (fun st h => st 1 = LP (valL nx pay cost x) ∧ st 2 = .ptr 0 0 ∧ st 5 = I i ∧ st 13 = LLI nx ∧ st 14 = I n ∧ st 15 = I i ∧ h.nx = 1 ∧ h.bl 0 = some (.cells false false [LLI nx, LI pay, LI cost]) ∧ st 7 = I (rdP (S n) D).1 ∧ st 8 = I (rdP (S n) D).2) ?_ ?_
  · refine WP_for 40 n (fun m st h => st 1 = LP (valL nx pay cost x) ∧ st 2 = .ptr 0 0 ∧ st 5 = I i ∧ st 13 = LLI nx ∧ st 14 = I n ∧ st 15 = I i ∧ st 38 = LI (nth nx i) ∧ st 39 = I n ∧ h.nx = 1 ∧ h.bl 0 = some (.cells false false [LLI nx, LI pay, LI cost]) ∧ st 7 = I (rdP (S m) D).1 ∧ st 8 = I (rdP (S m) D).2) (by simp (disch := first | (simp only [go_sem, gb0, eq_self]; done) | omega | (simp only [gl1, gl2]; omega)) only [go_sem, ↓reduceIte, Nat.reduceEqDiff, Nat.reduceAdd, Nat.reduceMul, Nat.reduceSub, Int.reduceToNat, Nat.reduceBEq])
      ⟨by simp (disch := first | (simp only [go_sem, gb0, eq_self]; done) | omega | (simp only [gl1, gl2]; omega)) only [go_sem, ↓reduceIte, Nat.reduceEqDiff, Nat.reduceAdd, Nat.reduceMul, Nat.reduceSub, Int.reduceToNat, Nat.reduceBEq, s1], by simp (disch := first | (simp only [go_sem, gb0, eq_self]; done) | omega | (simp only [gl1, gl2]; omega)) only [go_sem, ↓reduceIte, Nat.reduceEqDiff, Nat.reduceAdd, Nat.reduceMul, Nat.reduceSub, Int.reduceToNat, Nat.reduceBEq, s2], by simp (disch := first | (simp only [go_sem, gb0, eq_self]; done) | omega | (simp only [gl1, gl2]; omega)) only [go_sem, ↓reduceIte, Nat.reduceEqDiff, Nat.reduceAdd, Nat.reduceMul, Nat.reduceSub, Int.reduceToNat, Nat.reduceBEq], by simp (disch := first | (simp only [go_sem, gb0, eq_self]; done) | omega | (simp only [gl1, gl2]; omega)) only [go_sem, ↓reduceIte, Nat.reduceEqDiff, Nat.reduceAdd, Nat.reduceMul, Nat.reduceSub, Int.reduceToNat, Nat.reduceBEq, s13], by simp (disch := first | (simp only [go_sem, gb0, eq_self]; done) | omega | (simp only [gl1, gl2]; omega)) only [go_sem, ↓reduceIte, Nat.reduceEqDiff, Nat.reduceAdd, Nat.reduceMul, Nat.reduceSub, Int.reduceToNat, Nat.reduceBEq, s14], by simp (disch := first | (simp only [go_sem, gb0, eq_self]; done) | omega | (simp only [gl1, gl2]; omega)) only [go_sem, ↓reduceIte, Nat.reduceEqDiff, Nat.reduceAdd, Nat.reduceMul, Nat.reduceSub, Int.reduceToNat, Nat.reduceBEq, s15], by simp (disch := first | (simp only [go_sem, gb0, eq_self]; done) | omega | (simp only [gl1, gl2]; omega)) only [go_sem, ↓reduceIte, Nat.reduceEqDiff, Nat.reduceAdd, Nat.reduceMul, Nat.reduceSub, Int.reduceToNat, Nat.reduceBEq], by (simp (disch := first | (simp only [go_sem, gb0, eq_self]; done) | omega | (simp only [gl1, gl2]; omega)) only [go_sem, ↓reduceIte, Nat.reduceEqDiff, Nat.reduceAdd, Nat.reduceMul, Nat.reduceSub, Int.reduceToNat, Nat.reduceBEq]; rw [hrow, hn]), hnx, b0, by (rw [hS0]; simp (disch := first | (simp only [go_sem, gb0, eq_self]; done) | omega | (simp only [gl1, gl2]; omega)) only [go_sem, ↓reduceIte, Nat.reduceEqDiff, Nat.reduceAdd, Nat.reduceMul, Nat.reduceSub, Int.reduceToNat, Nat.reduceBEq]), by (rw [hS0]; simp (disch := first | (simp only [go_sem, gb0, eq_self]; done) | omega | (simp only [gl1, gl2]; omega)) only [go_sem, ↓reduceIte, Nat.reduceEqDiff, Nat.reduceAdd, Nat.reduceMul, Nat.reduceSub, Int.reduceToNat, Nat.reduceBEq])⟩ ?_
    rintro m st h hm s40 ⟨s1, s2, s5, s13, s14, s15, s38, s39, hnx, b0, s7, s8⟩
    by_cases hmn : m < n
    case neg =>
      have hme : m = n := by omega
      subst hme
      simp (disch := first | (simp only [go_sem, gb0, eq_self]; done) | omega | (simp only [gl1, gl2]; omega)) only [go_sem, ↓reduceIte, Nat.reduceEqDiff, Nat.reduceAdd, Nat.reduceMul, Nat.reduceSub, Int.reduceToNat, Nat.reduceBEq, s1, s2, s5, s13, s14, s15, s7, s8, s39, s40, hmn]
      exact ⟨hnx, b0⟩
    have hmr : m < (nth nx i).length := by omega
    have hmr' : (m : Int) < (nth nx i).length := by omega
    have hmv : m < (valL nx pay cost x).length := by omega
    have hmv' : (m : Int) < (valL nx pay cost x).length := by omega
    have hvm := hvn m hmn
    have hwb := C.wb hi1 (show m < nx.length by omega)
    have hVm := hVb m hmn
    have ud := rdP_den (a := V m) hDp
    have un := rdP_absN (a := V m) hDp
    have hau : absI (V m) ≤ 3188646000 := absI_le.2 hVm
    have sd := rdP_den (a := S m) hDp
    have sn := rdP_absN (a := S m) hDp
    have has : absI (S m) ≤ 80000000000 := absI_le.2 (hSb m (by omega))
    have v1 := rdP_val (a := V m) hDp
    have v2 := rdP_val (a := S m) hDp
    have hst := hSs m
    have key : rdP ((rdP (S m) D).1 * (rdP (V m) D).2 + nth (nth nx i) m * (rdP (V m) D).1 * (rdP (S m) D).2) ((rdP (S m) D).2 * (rdP (V m) D).2) = rdP (S (m + 1)) D := by
      refine rdP_cross (Int.mul_pos sd.1 ud.1) hDp ?_
      rw [hst]
      generalize rdP (S m) D = u at *
      generalize rdP (V m) D = v at *
      grind
    generalize hr' : rdP (S (m + 1)) D = r at *
    generalize rdP (S m) D = u at *
    generalize rdP (V m) D = v at *
    have w1 := mul_bd (a := u.1) (b := v.2) (A := 80000000000) (B := 262144) (by omega) (by omega)
    have w2 := mul_bd (a := nth (nth nx i) m) (b := v.1) (A := 4) (B := 3188646000) (by omega) (by omega)
    have w3 := mul_bd (a := nth (nth nx i) m * v.1) (b := u.2) (A := 12754584000) (B := 262144) (by omega) (by omega)
    have w4 : 0 < u.2 * v.2 := Int.mul_pos sd.1 ud.1
    have w5 := mul_bd (a := u.2) (b := v.2) (A := 262144) (B := 262144) (by omega) (by omega)
    obtain ⟨A, hA⟩ : ∃ A, A = u.1 * v.2 + nth (nth nx i) m * v.1 * u.2 := ⟨_, rfl⟩
    obtain ⟨B, hB⟩ : ∃ B, B = u.2 * v.2 := ⟨_, rfl⟩
    rw [← hA, ← hB] at key
    have hAb : -30000000000000000 ≤ A ∧ A ≤ 30000000000000000 := by rw [hA]; omega
    have hBb : 0 < B ∧ B ≤ 68719476736 := by rw [hB]; omega
    have kg := fun h h' K => k79 (h := h) (h' := h') (K := K) A B (by simp only [big]; omega) (by simp only [big]; omega)
    have hg := gcdI_pos (a := A) (b := B) (by omega)
    have t1 := tdiv_gcd_l A B
    have t2 := tdiv_gcd_r A B
    have r1 := div_rng hg (gcdI_dvd A B).1
    have r2 := div_rng hg (gcdI_dvd A B).2
    have kr1 : A / gcdI A B = r.1 := by rw [← key, rdP_pos hBb.1]
    have kr2 : B / gcdI A B = r.2 := by rw [← key, rdP_pos hBb.1]
    have g0 : ¬ gcdI A B = 0 := by omega
    rw [kr1] at t1 r1
    rw [kr2] at t2 r2
    simp (disch := first | (simp only [go_sem, gb0, eq_self]; done) | omega | (simp only [gl1, gl2]; omega)) only [go_sem, ↓reduceIte, Nat.reduceEqDiff, Nat.reduceAdd, Nat.reduceMul, Nat.reduceSub, Int.reduceToNat, Nat.reduceBEq, s1, s2, s5, s13, s14, s15, s7, s8, s38, s39, s40, hmn, hmr, hmr', hmv, hmv', hvm, ← hA, ← hB, kg, t1, t2, g0, List.drop_succ_cons]
    rw [ForK_normal]
    exact ⟨hmn, by simp (disch := first | (simp only [go_sem, gb0, eq_self]; done) | omega | (simp only [gl1, gl2]; omega)) only [go_sem, ↓reduceIte, Nat.reduceEqDiff, Nat.reduceAdd, Nat.reduceMul, Nat.reduceSub, Int.reduceToNat, Nat.reduceBEq, s40], by simp (disch := first | (simp only [go_sem, gb0, eq_self]; done) | omega | (simp only [gl1, gl2]; omega)) only [go_sem, ↓reduceIte, Nat.reduceEqDiff, Nat.reduceAdd, Nat.reduceMul, Nat.reduceSub, Int.reduceToNat, Nat.reduceBEq, s1], by simp (disch := first | (simp only [go_sem, gb0, eq_self]; done) | omega | (simp only [gl1, gl2]; omega)) only [go_sem, ↓reduceIte, Nat.reduceEqDiff, Nat.reduceAdd, Nat.reduceMul, Nat.reduceSub, Int.reduceToNat, Nat.reduceBEq, s2], by simp (disch := first | (simp only [go_sem, gb0, eq_self]; done) | omega | (simp only [gl1, gl2]; omega)) only [go_sem, ↓reduceIte, Nat.reduceEqDiff, Nat.reduceAdd, Nat.reduceMul, Nat.reduceSub, Int.reduceToNat, Nat.reduceBEq, s5], by simp (disch := first | (simp only [go_sem, gb0, eq_self]; done) | omega | (simp only [gl1, gl2]; omega)) only [go_sem, ↓reduceIte, Nat.reduceEqDiff, Nat.reduceAdd, Nat.reduceMul, Nat.reduceSub, Int.reduceToNat, Nat.reduceBEq, s13], by simp (disch := first | (simp only [go_sem, gb0, eq_self]; done) | omega | (simp only [gl1, gl2]; omega)) only [go_sem, ↓reduceIte, Nat.reduceEqDiff, Nat.reduceAdd, Nat.reduceMul, Nat.reduceSub, Int.reduceToNat, Nat.reduceBEq, s14], by simp (disch := first | (simp only [go_sem, gb0, eq_self]; done) | omega | (simp only [gl1, gl2]; omega)) only [go_sem, ↓reduceIte, Nat.reduceEqDiff, Nat.reduceAdd, Nat.reduceMul, Nat.reduceSub, Int.reduceToNat, Nat.reduceBEq, s15], by simp (disch := first | (simp only [go_sem, gb0, eq_self]; done) | omega | (simp only [gl1, gl2]; omega)) only [go_sem, ↓reduceIte, Nat.reduceEqDiff, Nat.reduceAdd, Nat.reduceMul, Nat.reduceSub, Int.reduceToNat, Nat.reduceBEq, s38], by simp (disch := first | (simp only [go_sem, gb0, eq_self]; done) | omega | (simp only [gl1, gl2]; omega)) only [go_sem, ↓reduceIte, Nat.reduceEqDiff, Nat.reduceAdd, Nat.reduceMul, Nat.reduceSub, Int.reduceToNat, Nat.reduceBEq, s39], hnx, b0, by (rw [hr']; simp (disch := first | (simp only [go_sem, gb0, eq_self]; done) | omega | (simp only [gl1, gl2]; omega)) only [go_sem, ↓reduceIte, Nat.reduceEqDiff, Nat.reduceAdd, Nat.reduceMul, Nat.reduceSub, Int.reduceToNat, Nat.reduceBEq]), by (rw [hr']; simp (disch := first | (simp only [go_sem, gb0, eq_self]; done) | omega | (simp only [gl1, gl2]; omega)) only [go_sem, ↓reduceIte, Nat.reduceEqDiff, Nat.reduceAdd, Nat.reduceMul, Nat.reduceSub, Int.reduceToNat, Nat.reduceBEq])⟩
  · rintro st h ⟨s1, s2, s5, s13, s14, s15, hnx, b0, s7, s8⟩
    have sd := rdP_den (a := S n) hDp
    have sn := rdP_absN (a := S n) hDp
    have has : absI (S n) ≤ 80000000000 := absI_le.2 (hSb n (by omega))
    have v2 := rdP_val (a := S n) hDp
    have key : rdP (rdP (S n) D).1 ((rdP (S n) D).2 * 4) = rdP (S n) (4 * D) := by
      refine rdP_cross (by omega) (by omega) ?_
      generalize rdP (S n) D = u at *
      grind
    have hcmp2 : (rdP (V i) D).1 * (rdP (S n) (4 * D)).2 < (rdP (S n) (4 * D)).1 * (rdP (V i) D).2 ↔ 4 * V i < S n := by
      have h1 := lessP_rd (a := V i) (c := S n) hDp (show 0 < 4 * D by omega)
      unfold lessQ at h1
      rw [h1]
      constructor
      · intro h2
        have e : V i * (4 * D) = 4 * V i * D := by grind
        rw [e] at h2
        exact Int.lt_of_mul_lt_mul_right h2 (Int.le_of_lt hDp)
      · intro h2
        have e : V i * (4 * D) = 4 * V i * D := by grind
        rw [e]
        exact Int.mul_lt_mul_of_pos_right h2 hDp
    have qd := rdP_den (a := S n) (show 0 < 4 * D by omega)
    have qn := rdP_absN (a := S n) (show 0 < 4 * D by omega)
    have kr := fun h h' K => k70 (h := h) (h' := h') (K := K) (rdP (S n) D).1 ((rdP (S n) D).2 * 4) (by simp only [big]; omega) (by simp only [big]; omega) (by omega)
    rw [key] at kr
    have z0 : 0 < h.nx := by omega
    have w1 := mul_bd (a := (rdP (V i) D).1) (b := (rdP (S n) (4 * D)).2) (A := 3188646000) (B := 1048576) (by omega) (by omega)
    have w2 := mul_bd (a := (rdP (S n) (4 * D)).1) (b := (rdP (V i) D).2) (A := 80000000000) (B := 262144) (by omega) (by omega)
    have k52b := fun h h' K => ConW_num (h := h) (h' := h') (K := K) (f52_con (rdP (V i) D) (rdP (S n) (4 * D)) (by simp only [big]; omega) (by simp only [big]; omega)) rfl
    by_cases hlow : 4 * V i < S n
    · have hb := hno i hlt (fun h => by rw [← hSn] at h; omega)
      have hc2 : decide (cmpP (rdP (V i) D) (rdP (S n) (4 * D)) < 0) = true := by rw [cmp_lt]; exact decide_eq_true (hcmp2.2 hlow)
      simp (disch := first | (simp only [go_sem, gb0, eq_self]; done) | omega | (simp only [gl1, gl2]; omega)) only [go_sem, ↓reduceIte, Nat.reduceEqDiff, Nat.reduceAdd, Nat.reduceMul, Nat.reduceSub, Int.reduceToNat, Nat.reduceBEq, s1, s2, s5, s13, s14, s15, s7, s8, hiv, hiv', hvi, kr, k52b, hc2, hb]
    · have hc2 : decide (cmpP (rdP (V i) D) (rdP (S n) (4 * D)) < 0) = false := by rw [cmp_lt]; exact decide_eq_false fun h => hlow (hcmp2.1 h)
      simp (disch := first | (simp only [go_sem, gb0, eq_self]; done) | omega | (simp only [gl1, gl2]; omega)) only [go_sem, ↓reduceIte, Nat.reduceEqDiff, Nat.reduceAdd, Nat.reduceMul, Nat.reduceSub, Int.reduceToNat, Nat.reduceBEq, s1, s2, s5, s13, s14, s15, s7, s8, hiv, hiv', hvi, kr, k52b, hc2]
      rw [ForK_normal]
      refine ⟨hlt, by simp (disch := first | (simp only [go_sem, gb0, eq_self]; done) | omega | (simp only [gl1, gl2]; omega)) only [go_sem, ↓reduceIte, Nat.reduceEqDiff, Nat.reduceAdd, Nat.reduceMul, Nat.reduceSub, Int.reduceToNat, Nat.reduceBEq, s15], by simp (disch := first | (simp only [go_sem, gb0, eq_self]; done) | omega | (simp only [gl1, gl2]; omega)) only [go_sem, ↓reduceIte, Nat.reduceEqDiff, Nat.reduceAdd, Nat.reduceMul, Nat.reduceSub, Int.reduceToNat, Nat.reduceBEq, s1], by simp (disch := first | (simp only [go_sem, gb0, eq_self]; done) | omega | (simp only [gl1, gl2]; omega)) only [go_sem, ↓reduceIte, Nat.reduceEqDiff, Nat.reduceAdd, Nat.reduceMul, Nat.reduceSub, Int.reduceToNat, Nat.reduceBEq, s2], by simp (disch := first | (simp only [go_sem, gb0, eq_self]; done) | omega | (simp only [gl1, gl2]; omega)) only [go_sem, ↓reduceIte, Nat.reduceEqDiff, Nat.reduceAdd, Nat.reduceMul, Nat.reduceSub, Int.reduceToNat, Nat.reduceBEq, s13], by simp (disch := first | (simp only [go_sem, gb0, eq_self]; done) | omega | (simp only [gl1, gl2]; omega)) only [go_sem, ↓reduceIte, Nat.reduceEqDiff, Nat.reduceAdd, Nat.reduceMul, Nat.reduceSub, Int.reduceToNat, Nat.reduceBEq, s14], hnx, b0, fun k hk => ?_⟩
      by_cases hki : k = i
      · subst hki; rw [← hSn]; omega
      · exact hall k (by omega)
end Go.Proofs.Ytgamcclfdkpcgaa

set_option linter.unusedVariables false
set_option linter.unusedSimpArgs false
set_option maxRecDepth 10000
namespace Go.Proofs.Ytgamcclfdkpcgaa
open Go Go.Am

theorem okC.ch {nx : List (List Int)} {pay cost : List Int} (C : okC nx pay cost) : Chn nx.length (wF nx) (pF pay) (pF cost) := C.chn
/-- The best values, as the program finds them. -/
noncomputable def bestL (nx : List (List Int)) (pay cost : List Int) : List (Int × Int) :=
  firstOf (sndB nx.length (wF nx)) (supB nx.length (wF nx) (pF pay) (pF cost)) (valL nx pay cost) (List.range (2 ^ nx.length))
theorem best_is {nx : List (List Int)} {pay cost : List Int} (C : okC nx pay cost) : ∃ x, x < 2 ^ nx.length ∧ sndP nx.length (wF nx) (ruleB x) ∧ sup nx.length (wF nx) (pF pay) (pF cost) (VN nx.length (wF nx) (pF pay) (pF cost) (ruleB x)) (DN nx.length (wF nx) (pF pay) (pF cost) (ruleB x)) ∧ bestL nx pay cost = valL nx pay cost x := by
  obtain ⟨y, hy, h1, h2⟩ := best_ex C.ch (by have := C.n1; omega)
  unfold bestL firstOf
  cases hf : (List.range (2 ^ nx.length)).find? fun x => sndB nx.length (wF nx) x && supB nx.length (wF nx) (pF pay) (pF cost) x with
  | none =>
    have := List.find?_eq_none.1 hf y (List.mem_range.2 hy)
    rw [sndB_iff.2 h1, supB_iff.2 h2] at this
    exact (this rfl).elim
  | some x =>
    have h3 := List.find?_some hf
    have h4 := List.mem_range.1 (List.mem_of_find?_eq_some hf)
    simp only [Bool.and_eq_true] at h3
    exact ⟨x, h4, sndB_iff.1 h3.1, supB_iff.1 h3.2, rfl⟩
theorem valL_len (nx : List (List Int)) (pay cost : List Int) (x : Nat) : (valL nx pay cost x).length = nx.length := by simp [valL]
theorem valL_nth {nx : List (List Int)} (pay cost : List Int) (x : Nat) {i : Nat} (hi : i < nx.length) : nth (valL nx pay cost x) i = rdP (VN nx.length (wF nx) (pF pay) (pF cost) (ruleB x) i) (DN nx.length (wF nx) (pF pay) (pF cost) (ruleB x)) := by rw [valL, nth_map_range _ _ _ hi]
theorem bestL_len {nx : List (List Int)} {pay cost : List Int} (C : okC nx pay cost) : (bestL nx pay cost).length = nx.length := by
  obtain ⟨x, _, _, _, e⟩ := best_is C
  rw [e, valL_len]
theorem eqM_congr {n : Nat} {w : Mat} {p c : Nat → Int} {r r' : Nat → Bool} (h : ∀ i, i < n → r i = r' i) {i : Nat} (hi : i < n) (j : Nat) : eqM n w p c r i j = eqM n w p c r' i j := by unfold eqM; rw [h i hi]
theorem valL_congr {nx : List (List Int)} {pay cost : List Int} {x y : Nat} (h : ∀ i, i < nx.length → ruleB x i = ruleB y i) : valL nx pay cost x = valL nx pay cost y := by
  unfold valL
  refine List.map_congr_left fun i hi => ?_
  have hd : det nx.length (eqM nx.length (wF nx) (pF pay) (pF cost) (ruleB x)) = det nx.length (eqM nx.length (wF nx) (pF pay) (pF cost) (ruleB y)) := det_congr fun r c hr hc => eqM_congr h hr c
  have hs : solV nx.length (eqM nx.length (wF nx) (pF pay) (pF cost) (ruleB x)) i = solV nx.length (eqM nx.length (wF nx) (pF pay) (pF cost) (ruleB y)) i := det_congr fun r c hr hc => by
    unfold colU
    split
    · exact eqM_congr h hr _
    · exact eqM_congr h hr c
  unfold VN DN
  rw [hd, hs]
theorem sndB_congr {n : Nat} {w : Mat} {x y : Nat} (h : ∀ i, i < n → ruleB x i = ruleB y i) : sndB n w x = sndB n w y := by
  have : sndB n w x = true ↔ sndB n w y = true := by
    rw [sndB_iff, sndB_iff]
    exact ⟨sndP_congr h, sndP_congr fun i hi => (h i hi).symm⟩
  cases h1 : sndB n w x <;> cases h2 : sndB n w y <;> simp_all

/-- The reference's way: the greatest of each state's values. -/
def stepL (n : Nat) (best v : List (Int × Int)) (m : Nat) : List (Int × Int) :=
  if best.length < n then (List.range m).map (nth v) else (List.range n).map fun k => if k < m ∧ lessP (nth best k) (nth v k) = true then nth v k else nth best k
noncomputable def bestR (nx : List (List Int)) (pay cost : List Int) : Nat → List (Int × Int)
  | 0 => []
  | m + 1 => if sndB nx.length (wF nx) m then stepL nx.length (bestR nx pay cost m) (valL nx pay cost m) nx.length else bestR nx pay cost m
structure BInv (nx : List (List Int)) (pay cost : List Int) (m : Nat) (b : List (Int × Int)) : Prop where
  no : b = [] → ∀ x, x < m → sndB nx.length (wF nx) x = false
  len : b = [] ∨ b.length = nx.length
  ex : ∀ i, i < b.length → ∃ x, x < m ∧ sndP nx.length (wF nx) (ruleB x) ∧ nth b i = nth (valL nx pay cost x) i
  ge : ∀ i, i < b.length → ∀ x, x < m → sndP nx.length (wF nx) (ruleB x) → (nth (valL nx pay cost x) i).1 * (nth b i).2 ≤ (nth b i).1 * (nth (valL nx pay cost x) i).2
theorem val_den {nx : List (List Int)} {pay cost : List Int} (C : okC nx pay cost) {x : Nat} (hs : sndP nx.length (wF nx) (ruleB x)) {i : Nat} (hi : i < nx.length) : (1 ≤ (nth (valL nx pay cost x) i).2 ∧ (nth (valL nx pay cost x) i).2 ≤ 262144) ∧ (-3188646000 ≤ (nth (valL nx pay cost x) i).1 ∧ (nth (valL nx pay cost x) i).1 ≤ 3188646000) := by
  have hn := C.n1
  have h6 := C.n6
  have hv := (vals_of C.ch hs (by omega)).pos
  have h1 := VN_b C.ch hs hi
  have h2 := DN_b C.ch hs
  have h3 := bE6 h6
  have h4 := bC6 h6
  rw [valL_nth pay cost x hi]
  have h5 := rdP_den (a := VN nx.length (wF nx) (pF pay) (pF cost) (ruleB x) i) hv
  have h6 := rdP_absN (a := VN nx.length (wF nx) (pF pay) (pF cost) (ruleB x) i) hv
  have h7 := absI_le.2 h1
  omega
theorem le_trans_fr {a b c : Int × Int} (ha : 0 < a.2) (hb : 0 < b.2) (hc : 0 < c.2) (h1 : a.1 * b.2 ≤ b.1 * a.2) (h2 : b.1 * c.2 ≤ c.1 * b.2) : a.1 * c.2 ≤ c.1 * a.2 := by
  have e1 := Int.mul_le_mul_of_nonneg_right h1 (Int.le_of_lt hc)
  have e2 := Int.mul_le_mul_of_nonneg_right h2 (Int.le_of_lt ha)
  have e3 : a.1 * c.2 * b.2 ≤ c.1 * a.2 * b.2 := by grind
  exact Int.le_of_mul_le_mul_right e3 hb
theorem bestR_inv {nx : List (List Int)} {pay cost : List Int} (C : okC nx pay cost) : ∀ m, BInv nx pay cost m (bestR nx pay cost m) := by
  have hn := C.n1
  intro m
  induction m with
  | zero => exact ⟨fun _ x hx => by omega, .inl rfl, fun i hi => by simp [bestR] at hi, fun i hi => by simp [bestR] at hi⟩
  | succ m ih =>
    rw [bestR]
    cases hs : sndB nx.length (wF nx) m with
    | false =>
      have hns : ¬ sndP nx.length (wF nx) (ruleB m) := fun h => by rw [sndB_iff.2 h] at hs; cases hs
      simp only [Bool.false_eq_true, if_false]
      refine ⟨fun e x hx => ?_, ih.len, fun i hi => ?_, fun i hi x hx hxs => ?_⟩
      · by_cases hxm : x = m
        · subst hxm; exact hs
        · exact ih.no e x (by omega)
      · obtain ⟨x, h1, h2⟩ := ih.ex i hi
        exact ⟨x, by omega, h2⟩
      · by_cases hxm : x = m
        · subst hxm; exact (hns hxs).elim
        · exact ih.ge i hi x (by omega) hxs
    | true =>
      have hsp := sndB_iff.1 hs
      simp only [if_true]
      have hvn : ∀ i, i < nx.length → 0 < (nth (valL nx pay cost m) i).2 := fun i hi => by have := (val_den C hsp hi).1; omega
      by_cases hlt : (bestR nx pay cost m).length < nx.length
      · have he : bestR nx pay cost m = [] := by
          rcases ih.len with e | e
          · exact e
          · omega
        have hst : stepL nx.length (bestR nx pay cost m) (valL nx pay cost m) nx.length = (List.range nx.length).map (nth (valL nx pay cost m)) := by unfold stepL; rw [if_pos hlt]
        rw [hst]
        have hno := ih.no he
        have hl : ((List.range nx.length).map (nth (valL nx pay cost m))).length = nx.length := by simp
        have hnt : ∀ i, i < nx.length → nth ((List.range nx.length).map (nth (valL nx pay cost m))) i = nth (valL nx pay cost m) i := fun i hi => nth_map_range _ _ _ hi
        refine ⟨fun e => ?_, .inr hl, fun i hi => ⟨m, by omega, hsp, hnt i (by omega)⟩, fun i hi x hx hxs => ?_⟩
        · have := congrArg List.length e; rw [hl] at this; simp only [List.length_nil] at this; omega
        · rw [hnt i (by omega)]
          by_cases hxm : x = m
          · subst hxm; exact Int.le_refl _
          · have := hno x (by omega); rw [sndB_iff.2 hxs] at this; cases this
      · have hbl : (bestR nx pay cost m).length = nx.length := by
          rcases ih.len with e | e
          · exact absurd (by rw [e, List.length_nil]; omega) hlt
          · exact e
        have hst : stepL nx.length (bestR nx pay cost m) (valL nx pay cost m) nx.length = (List.range nx.length).map fun k => if k < nx.length ∧ lessP (nth (bestR nx pay cost m) k) (nth (valL nx pay cost m) k) = true then nth (valL nx pay cost m) k else nth (bestR nx pay cost m) k := by unfold stepL; rw [if_neg hlt]
        rw [hst]
        generalize bestR nx pay cost m = b at *
        have hl : ((List.range nx.length).map fun k => if k < nx.length ∧ lessP (nth b k) (nth (valL nx pay cost m) k) = true then nth (valL nx pay cost m) k else nth b k).length = nx.length := by simp
        have hnt : ∀ i, i < nx.length → nth ((List.range nx.length).map fun k => if k < nx.length ∧ lessP (nth b k) (nth (valL nx pay cost m) k) = true then nth (valL nx pay cost m) k else nth b k) i = if lessP (nth b i) (nth (valL nx pay cost m) i) = true then nth (valL nx pay cost m) i else nth b i := fun i hi => by
          rw [nth_map_range _ _ _ hi]; simp [hi]
        refine ⟨fun e => ?_, .inr hl, fun i hi => ?_, fun i hi x hx hxs => ?_⟩
        · have := congrArg List.length e; rw [hl] at this; simp only [List.length_nil] at this; omega
        · rw [hnt i (by omega)]
          split
          · exact ⟨m, by omega, hsp, rfl⟩
          · obtain ⟨x, h1, h2⟩ := ih.ex i (by omega)
            exact ⟨x, by omega, h2⟩
        · rw [hnt i (by omega)]
          obtain ⟨y, _, hys, hy⟩ := ih.ex i (by omega)
          have hby : 0 < (nth b i).2 := by rw [hy]; have := (val_den C hys (show i < nx.length by omega)).1; omega
          have hvx := (val_den C hxs (show i < nx.length by omega)).1
          have hvm := hvn i (by omega)
          split
          · rename_i hless
            have hl2 : (nth b i).1 * (nth (valL nx pay cost m) i).2 < (nth (valL nx pay cost m) i).1 * (nth b i).2 := of_decide_eq_true hless
            by_cases hxm : x = m
            · subst hxm; exact Int.le_refl _
            · have := ih.ge i (by omega) x (by omega) hxs
              exact le_trans_fr (by omega) hby hvm this (Int.le_of_lt hl2)
          · rename_i hless
            have hl2 : ¬ (nth b i).1 * (nth (valL nx pay cost m) i).2 < (nth (valL nx pay cost m) i).1 * (nth b i).2 := fun h => hless (decide_eq_true h)
            by_cases hxm : x = m
            · subst hxm; omega
            · exact ih.ge i (by omega) x (by omega) hxs
/-- Both ways come to the same. -/
theorem bestR_eq {nx : List (List Int)} {pay cost : List Int} (C : okC nx pay cost) : bestR nx pay cost (2 ^ nx.length) = bestL nx pay cost := by
  have hn := C.n1
  obtain ⟨x, hx, hs, hsup, he⟩ := best_is C
  have I := bestR_inv C (2 ^ nx.length)
  have hne : bestR nx pay cost (2 ^ nx.length) ≠ [] := fun e => by
    have := I.no e x hx; rw [sndB_iff.2 hs] at this; cases this
  have hl : (bestR nx pay cost (2 ^ nx.length)).length = nx.length := by
    rcases I.len with e | e
    · exact (hne e).elim
    · exact e
  refine list_ext_nth (by rw [hl, bestL_len C]) fun i hi => ?_
  rw [hl] at hi
  obtain ⟨y, hy, hys, hyv⟩ := I.ex i (by omega)
  have hge := I.ge i (by omega) x hx hs
  rw [hyv] at hge ⊢
  rw [he, valL_nth pay cost y hi, valL_nth pay cost x hi] at *
  have B := Bst.of C.ch (by omega) hs hsup
  have hdy := vals_of C.ch hys (by omega)
  have hdx := vals_of C.ch hs (by omega)
  have h1 := B.dom C.ch hys hdy i hi
  have h2 : ¬ lessQ (rdP (VN nx.length (wF nx) (pF pay) (pF cost) (ruleB y) i) (DN nx.length (wF nx) (pF pay) (pF cost) (ruleB y))) (rdP (VN nx.length (wF nx) (pF pay) (pF cost) (ruleB x) i) (DN nx.length (wF nx) (pF pay) (pF cost) (ruleB x))) := by
    unfold lessQ; omega
  rw [lessP_rd hdy.pos hdx.pos] at h2
  exact rdP_cross hdy.pos hdx.pos (by omega)
end Go.Proofs.Ytgamcclfdkpcgaa

set_option linter.unusedVariables false
set_option linter.unusedSimpArgs false
set_option maxRecDepth 10000
namespace Go.Proofs.Ytgamcclfdkpcgaa
open Go Go.Am

variable {h h' : Hp} {K : AV → Hp → Prop}

@[go_sem] theorem und89' : Try.prog.underlying 89 = some (.slice 4) := Try.underlying89
/-- A run of bools. -/
def vecB (L : Nat → Bool) (N : Nat) : List AV := (List.range N).map fun k => .bool (L k)
theorem vecB_len (L : Nat → Bool) (N : Nat) : (vecB L N).length = N := by simp [vecB]
@[go_sem] theorem vecB_get (L : Nat → Bool) (N k : Nat) (hk : k < N) : (vecB L N)[k]? = some (.bool (L k)) := by
  rw [vecB, List.getElem?_map, List.getElem?_range hk]; rfl
theorem vecB_congr {f g : Nat → Bool} {N : Nat} (h : ∀ k, k < N → f k = g k) : vecB f N = vecB g N := by
  refine List.map_congr_left fun k hk => ?_
  rw [h k (List.mem_range.1 hk)]
@[go_sem] theorem vecB_store (L : Nat → Bool) (id N k : Nat) (row v : Bool) (hk : k < N) : storeC h id k 1 (some (.cells false row (vecB L N))) [.bool v] = some (.skp, h.put id (some (.cells false row (vecB (setB L k v) N)))) := by
  rw [storeC_one id _ row _ (.bool v) rfl (by rw [vecB_len]; omega)]
  congr 5
  refine List.ext_getElem? fun j => ?_
  rw [List.getElem?_set]
  by_cases hj : j < N
  · by_cases e : k = j
    · subst e
      rw [if_pos rfl, if_pos (by rw [vecB_len]; omega), vecB_get _ _ _ hj]
      simp [setB]
    · rw [if_neg e, vecB_get _ _ _ hj, vecB_get _ _ _ hj]
      simp [setB, Ne.symm e]
  · rw [if_neg (by omega), List.getElem?_eq_none (by rw [vecB_len]; omega), List.getElem?_eq_none (by rw [vecB_len]; omega)]
theorem vecB_false (N : Nat) : (List.replicate N false).flatMap (e1 AV.bool) = vecB (fun _ => false) N := by
  induction N with
  | zero => rfl
  | succ n ih => rw [List.replicate_succ', List.flatMap_append, ih, vecB, vecB, List.range_succ, List.map_append]; rfl

theorem f32_con {nx : List (List Int)} {pay cost : List Int} (C : okC nx pay cost) (l : List Int) (hl : l.length ≤ maxLen) :
    Con Try.prog cfg 32 [chA nx pay cost, LI l] (.bool (sndB nx.length (wF nx) (xOf nx.length l))) := by
  obtain ⟨n, hn⟩ : ∃ n, n = nx.length := ⟨_, rfl⟩
  have hn1 := C.n1
  have hn6 := C.n6
  have hal : ∀ g : Hp, allocB g (some (chA nx pay cost)) = some (.ptr g.nx 0, g.alloc (.cells false false [LLI nx, LI pay, LI cost])) := fun g => allocB_agg _ rfl
  have hmk : ∀ g : Hp, makeB Try.prog g (some (.slice 4)) (.int .i64 (n : Int)) (.int .i64 (n : Int)) = some (.sl g.nx 0 n 1, g.alloc (.cells false true (vecB (fun _ => false) n))) := fun g => by
    have := makeB_bool (P := Try.prog) (h := g) 4 (n : Int) isz4 ibytes4 izero4 (by omega) (by omega)
    rwa [Int.toNat_natCast, vecB_false] at this
  have k57 := fun v h h' K => ConW_num (h := h) (h' := h') (K := K) (f57_con l hl v) rfl
  have CC := C.chn
  rw [← hn] at CC ⊢
  obtain ⟨L0, hL0⟩ : ∃ L0 : Nat → Bool, L0 = fun i : Nat => hasB l (i : Int) || decide (sumN (wF nx i) n < 4) := ⟨_, rfl⟩
  have hLL : Left n (wF nx) (ruleB (xOf n l)) L0 := by
    refine ⟨fun S hS i hi hli => ?_, fun i hi hr => by rw [hL0]; rw [xOf_bit l hi] at hr; simp [hr]⟩
    cases hsi : S i with
    | false => rfl
    | true =>
      obtain ⟨a, b, _⟩ := hS i hi hsi
      rw [xOf_bit l hi] at a
      rw [hL0] at hli
      simp only [a, Bool.false_or, decide_eq_true_eq] at hli
      omega
  have h4 : ∀ i, i < n → L0 i = false → sumN (wF nx i) n = 4 := fun i hi h => by
    rw [hL0] at h
    simp only [Bool.or_eq_false_iff, decide_eq_false_iff_not] at h
    have h1 := CC.w4 i hi
    have h2 : ¬ sumN (fun j => nth (nth nx i) j) n < 4 := h.2
    show sumN (fun j => nth (nth nx i) j) n = 4
    omega
  refine Con_intro Try.func32 rfl ok32 (Nat.le_of_ble_eq_true rfl) rfl ?_
  simp only [Try.f32, Option.getD_some, initSt2]
  simp (disch := first | (simp only [go_sem, gb0, eq_self]; done) | omega | (simp only [gl1, gl2]; omega)) only [go_sem, ↓reduceIte, Nat.reduceEqDiff, Nat.reduceAdd, Nat.reduceMul, Nat.reduceSub, Int.reduceToNat, Nat.reduceBEq, hal, ← hn, hmk]
  refine WP_cut (fun st h => st 1 = LI l ∧ st 2 = .ptr 0 0 ∧ st 5 = I n ∧ st 6 = .sl 1 0 n 1 ∧ h.nx = 2 ∧ h.bl 0 = some (.cells false false [LLI nx, LI pay, LI cost]) ∧ h.bl 1 = some (.cells false true (vecB L0 n))) ?_ ?_
  · refine WP_for 7 n (fun i st h => st 1 = LI l ∧ st 2 = .ptr 0 0 ∧ st 5 = I n ∧ st 6 = .sl 1 0 n 1 ∧ h.nx = 2 ∧ h.bl 0 = some (.cells false false [LLI nx, LI pay, LI cost]) ∧ h.bl 1 = some (.cells false true (vecB (fun k => if k < i then L0 k else false) n))) (by simp (disch := first | (simp only [go_sem, gb0, eq_self]; done) | omega | (simp only [gl1, gl2]; omega)) only [go_sem, ↓reduceIte, Nat.reduceEqDiff, Nat.reduceAdd, Nat.reduceMul, Nat.reduceSub, Int.reduceToNat, Nat.reduceBEq])
      ⟨by simp (disch := first | (simp only [go_sem, gb0, eq_self]; done) | omega | (simp only [gl1, gl2]; omega)) only [go_sem, ↓reduceIte, Nat.reduceEqDiff, Nat.reduceAdd, Nat.reduceMul, Nat.reduceSub, Int.reduceToNat, Nat.reduceBEq], by simp (disch := first | (simp only [go_sem, gb0, eq_self]; done) | omega | (simp only [gl1, gl2]; omega)) only [go_sem, ↓reduceIte, Nat.reduceEqDiff, Nat.reduceAdd, Nat.reduceMul, Nat.reduceSub, Int.reduceToNat, Nat.reduceBEq], by simp (disch := first | (simp only [go_sem, gb0, eq_self]; done) | omega | (simp only [gl1, gl2]; omega)) only [go_sem, ↓reduceIte, Nat.reduceEqDiff, Nat.reduceAdd, Nat.reduceMul, Nat.reduceSub, Int.reduceToNat, Nat.reduceBEq, hn], by simp (disch := first | (simp only [go_sem, gb0, eq_self]; done) | omega | (simp only [gl1, gl2]; omega)) only [go_sem, ↓reduceIte, Nat.reduceEqDiff, Nat.reduceAdd, Nat.reduceMul, Nat.reduceSub, Int.reduceToNat, Nat.reduceBEq], rfl, by simp (disch := first | (simp only [go_sem, gb0, eq_self]; done) | omega | (simp only [gl1, gl2]; omega)) only [go_sem, ↓reduceIte, Nat.reduceEqDiff, Nat.reduceAdd, Nat.reduceMul, Nat.reduceSub, Int.reduceToNat, Nat.reduceBEq], by simp (disch := first | (simp only [go_sem, gb0, eq_self]; done) | omega | (simp only [gl1, gl2]; omega)) only [go_sem, ↓reduceIte, Nat.reduceEqDiff, Nat.reduceAdd, Nat.reduceMul, Nat.reduceSub, Int.reduceToNat, Nat.reduceBEq]; rfl⟩ ?_
    rintro i st h hi s7 ⟨s1, s2, s5, s6, hnx, b0, b1⟩
    by_cases hlt : i < n
    case neg =>
      have hie : i = n := by omega
      subst hie
      have he : vecB (fun k => if k < i then L0 k else false) i = vecB L0 i := vecB_congr fun k hk => if_pos hk
      rw [he] at b1
      simp (disch := first | (simp only [go_sem, gb0, eq_self]; done) | omega | (simp only [gl1, gl2]; omega)) only [go_sem, ↓reduceIte, Nat.reduceEqDiff, Nat.reduceAdd, Nat.reduceMul, Nat.reduceSub, Int.reduceToNat, Nat.reduceBEq, s1, s2, s5, s6, s7, hlt]
      exact ⟨hnx, b0, b1⟩
    have hi1 : i < nx.length := by omega
    have hi1' : (i : Int) < nx.length := by omega
    have hin' : (i : Int) < n := by omega
    have hrow := C.row i hi1
    simp (disch := first | (simp only [go_sem, gb0, eq_self]; done) | omega | (simp only [gl1, gl2]; omega)) only [go_sem, ↓reduceIte, Nat.reduceEqDiff, Nat.reduceAdd, Nat.reduceMul, Nat.reduceSub, Int.reduceToNat, Nat.reduceBEq, s1, s2, s5, s6, s7, hlt]
    refine WP_cut (fun st h => st 1 = LI l ∧ st 2 = .ptr 0 0 ∧ st 5 = I n ∧ st 6 = .sl 1 0 n 1 ∧ st 7 = I i ∧ st 8 = I (sumN (wF nx i) n) ∧ h.nx = 2 ∧ h.bl 0 = some (.cells false false [LLI nx, LI pay, LI cost]) ∧ h.bl 1 = some (.cells false true (vecB (fun k => if k < i then L0 k else false) n))) ?_ ?_
    · refine WP_for 9 n (fun j st h => st 1 = LI l ∧ st 2 = .ptr 0 0 ∧ st 5 = I n ∧ st 6 = .sl 1 0 n 1 ∧ st 7 = I i ∧ st 8 = I (sumN (wF nx i) j) ∧ h.nx = 2 ∧ h.bl 0 = some (.cells false false [LLI nx, LI pay, LI cost]) ∧ h.bl 1 = some (.cells false true (vecB (fun k => if k < i then L0 k else false) n))) (by simp (disch := first | (simp only [go_sem, gb0, eq_self]; done) | omega | (simp only [gl1, gl2]; omega)) only [go_sem, ↓reduceIte, Nat.reduceEqDiff, Nat.reduceAdd, Nat.reduceMul, Nat.reduceSub, Int.reduceToNat, Nat.reduceBEq])
        ⟨by simp (disch := first | (simp only [go_sem, gb0, eq_self]; done) | omega | (simp only [gl1, gl2]; omega)) only [go_sem, ↓reduceIte, Nat.reduceEqDiff, Nat.reduceAdd, Nat.reduceMul, Nat.reduceSub, Int.reduceToNat, Nat.reduceBEq, s1], by simp (disch := first | (simp only [go_sem, gb0, eq_self]; done) | omega | (simp only [gl1, gl2]; omega)) only [go_sem, ↓reduceIte, Nat.reduceEqDiff, Nat.reduceAdd, Nat.reduceMul, Nat.reduceSub, Int.reduceToNat, Nat.reduceBEq, s2], by simp (disch := first | (simp only [go_sem, gb0, eq_self]; done) | omega | (simp only [gl1, gl2]; omega)) only [go_sem, ↓reduceIte, Nat.reduceEqDiff, Nat.reduceAdd, Nat.reduceMul, Nat.reduceSub, Int.reduceToNat, Nat.reduceBEq, s5], by simp (disch := first | (simp only [go_sem, gb0, eq_self]; done) | omega | (simp only [gl1, gl2]; omega)) only [go_sem, ↓reduceIte, Nat.reduceEqDiff, Nat.reduceAdd, Nat.reduceMul, Nat.reduceSub, Int.reduceToNat, Nat.reduceBEq, s6], by simp (disch := first | (simp only [go_sem, gb0, eq_self]; done) | omega | (simp only [gl1, gl2]; omega)) only [go_sem, ↓reduceIte, Nat.reduceEqDiff, Nat.reduceAdd, Nat.reduceMul, Nat.reduceSub, Int.reduceToNat, Nat.reduceBEq, s7], by simp (disch := first | (simp only [go_sem, gb0, eq_self]; done) | omega | (simp only [gl1, gl2]; omega)) only [go_sem, ↓reduceIte, Nat.reduceEqDiff, Nat.reduceAdd, Nat.reduceMul, Nat.reduceSub, Int.reduceToNat, Nat.reduceBEq]; rfl, hnx, b0, b1⟩ ?_
      rintro j st h hj s9 ⟨s1, s2, s5, s6, s7, s8, hnx, b0, b1⟩
      by_cases hjn : j < n
      case neg =>
        have hje : j = n := by omega
        subst hje
        simp (disch := first | (simp only [go_sem, gb0, eq_self]; done) | omega | (simp only [gl1, gl2]; omega)) only [go_sem, ↓reduceIte, Nat.reduceEqDiff, Nat.reduceAdd, Nat.reduceMul, Nat.reduceSub, Int.reduceToNat, Nat.reduceBEq, s1, s2, s5, s6, s7, s8, s9, hjn]
        exact ⟨hnx, b0, b1⟩
      have hjr : j < (nth nx i).length := by omega
      have hjr' : (j : Int) < (nth nx i).length := by omega
      have hwb := C.wb hi1 (show j < nx.length by omega)
      have hsb := sumN_bounds (f := wF nx i) (lo := 0) (hi := 4) (n := j) fun k hk => C.wb hi1 (show k < nx.length by omega)
      have hs1 : sumN (wF nx i) (j + 1) = sumN (wF nx i) j + nth (nth nx i) j := rfl
      simp (disch := first | (simp only [go_sem, gb0, eq_self]; done) | omega | (simp only [gl1, gl2]; omega)) only [go_sem, ↓reduceIte, Nat.reduceEqDiff, Nat.reduceAdd, Nat.reduceMul, Nat.reduceSub, Int.reduceToNat, Nat.reduceBEq, s1, s2, s5, s6, s7, s8, s9, hjn, hi1, hi1', hjr, hjr', b0]
      rw [ForK_normal]
      exact ⟨hjn, by simp (disch := first | (simp only [go_sem, gb0, eq_self]; done) | omega | (simp only [gl1, gl2]; omega)) only [go_sem, ↓reduceIte, Nat.reduceEqDiff, Nat.reduceAdd, Nat.reduceMul, Nat.reduceSub, Int.reduceToNat, Nat.reduceBEq, s9], by simp (disch := first | (simp only [go_sem, gb0, eq_self]; done) | omega | (simp only [gl1, gl2]; omega)) only [go_sem, ↓reduceIte, Nat.reduceEqDiff, Nat.reduceAdd, Nat.reduceMul, Nat.reduceSub, Int.reduceToNat, Nat.reduceBEq, s1], by simp (disch := first | (simp only [go_sem, gb0, eq_self]; done) | omega | (simp only [gl1, gl2]; omega)) only [go_sem, ↓reduceIte, Nat.reduceEqDiff, Nat.reduceAdd, Nat.reduceMul, Nat.reduceSub, Int.reduceToNat, Nat.reduceBEq, s2], by simp (disch := first | (simp only [go_sem, gb0, eq_self]; done) | omega | (simp only [gl1, gl2]; omega)) only [go_sem, ↓reduceIte, Nat.reduceEqDiff, Nat.reduceAdd, Nat.reduceMul, Nat.reduceSub, Int.reduceToNat, Nat.reduceBEq, s5], by simp (disch := first | (simp only [go_sem, gb0, eq_self]; done) | omega | (simp only [gl1, gl2]; omega)) only [go_sem, ↓reduceIte, Nat.reduceEqDiff, Nat.reduceAdd, Nat.reduceMul, Nat.reduceSub, Int.reduceToNat, Nat.reduceBEq, s6], by simp (disch := first | (simp only [go_sem, gb0, eq_self]; done) | omega | (simp only [gl1, gl2]; omega)) only [go_sem, ↓reduceIte, Nat.reduceEqDiff, Nat.reduceAdd, Nat.reduceMul, Nat.reduceSub, Int.reduceToNat, Nat.reduceBEq, s7], by (rw [hs1]; simp (disch := first | (simp only [go_sem, gb0, eq_self]; done) | omega | (simp only [gl1, gl2]; omega)) only [go_sem, ↓reduceIte, Nat.reduceEqDiff, Nat.reduceAdd, Nat.reduceMul, Nat.reduceSub, Int.reduceToNat, Nat.reduceBEq]), hnx, b0, b1⟩
    · rintro st h ⟨s1, s2, s5, s6, s7, s8, hnx, b0, b1⟩
      have hset : ∀ b, L0 i = b → vecB (setB (fun k => if k < i then L0 k else false) i b) n = vecB (fun k => if k < i + 1 then L0 k else false) n := fun b hb => vecB_congr fun k hk => by
        unfold setB
        by_cases hki : k = i
        · subst hki; rw [if_pos rfl, if_pos (by omega), hb]
        · have : (k < i) ↔ (k < i + 1) := by omega
          simp [hki, this]
      have hLi : L0 i = (hasB l i || decide (sumN (wF nx i) n < 4)) := by rw [hL0]
      cases hh : hasB l i with
      | true =>
        have hs := hset true (by rw [hLi, hh]; rfl)
        simp (disch := first | (simp only [go_sem, gb0, eq_self]; done) | omega | (simp only [gl1, gl2]; omega)) only [go_sem, ↓reduceIte, Nat.reduceEqDiff, Nat.reduceAdd, Nat.reduceMul, Nat.reduceSub, Int.reduceToNat, Nat.reduceBEq, s1, s2, s5, s6, s7, s8, k57, hh, hin', hlt, b1, hs]
        rw [ForK_normal]
        exact ⟨hlt, by simp (disch := first | (simp only [go_sem, gb0, eq_self]; done) | omega | (simp only [gl1, gl2]; omega)) only [go_sem, ↓reduceIte, Nat.reduceEqDiff, Nat.reduceAdd, Nat.reduceMul, Nat.reduceSub, Int.reduceToNat, Nat.reduceBEq, s7], by simp (disch := first | (simp only [go_sem, gb0, eq_self]; done) | omega | (simp only [gl1, gl2]; omega)) only [go_sem, ↓reduceIte, Nat.reduceEqDiff, Nat.reduceAdd, Nat.reduceMul, Nat.reduceSub, Int.reduceToNat, Nat.reduceBEq, s1], by simp (disch := first | (simp only [go_sem, gb0, eq_self]; done) | omega | (simp only [gl1, gl2]; omega)) only [go_sem, ↓reduceIte, Nat.reduceEqDiff, Nat.reduceAdd, Nat.reduceMul, Nat.reduceSub, Int.reduceToNat, Nat.reduceBEq, s2], by simp (disch := first | (simp only [go_sem, gb0, eq_self]; done) | omega | (simp only [gl1, gl2]; omega)) only [go_sem, ↓reduceIte, Nat.reduceEqDiff, Nat.reduceAdd, Nat.reduceMul, Nat.reduceSub, Int.reduceToNat, Nat.reduceBEq, s5], by simp (disch := first | (simp only [go_sem, gb0, eq_self]; done) | omega | (simp only [gl1, gl2]; omega)) only [go_sem, ↓reduceIte, Nat.reduceEqDiff, Nat.reduceAdd, Nat.reduceMul, Nat.reduceSub, Int.reduceToNat, Nat.reduceBEq, s6], by simp (disch := first | (simp only [go_sem, gb0, eq_self]; done) | omega | (simp only [gl1, gl2]; omega)) only [go_sem, ↓reduceIte, Nat.reduceEqDiff, Nat.reduceAdd, Nat.reduceMul, Nat.reduceSub, Int.reduceToNat, Nat.reduceBEq, hnx], by simp (disch := first | (simp only [go_sem, gb0, eq_self]; done) | omega | (simp only [gl1, gl2]; omega)) only [go_sem, ↓reduceIte, Nat.reduceEqDiff, Nat.reduceAdd, Nat.reduceMul, Nat.reduceSub, Int.reduceToNat, Nat.reduceBEq, b0], by simp (disch := first | (simp only [go_sem, gb0, eq_self]; done) | omega | (simp only [gl1, gl2]; omega)) only [go_sem, ↓reduceIte, Nat.reduceEqDiff, Nat.reduceAdd, Nat.reduceMul, Nat.reduceSub, Int.reduceToNat, Nat.reduceBEq]⟩
      | false =>
        by_cases hc : sumN (wF nx i) n < 4
        · have hs := hset true (by rw [hLi, hh, decide_eq_true hc]; rfl)
          simp (disch := first | (simp only [go_sem, gb0, eq_self]; done) | omega | (simp only [gl1, gl2]; omega)) only [go_sem, ↓reduceIte, Nat.reduceEqDiff, Nat.reduceAdd, Nat.reduceMul, Nat.reduceSub, Int.reduceToNat, Nat.reduceBEq, s1, s2, s5, s6, s7, s8, k57, hh, hc, hin', hlt, b1, hs]
          rw [ForK_normal]
          exact ⟨hlt, by simp (disch := first | (simp only [go_sem, gb0, eq_self]; done) | omega | (simp only [gl1, gl2]; omega)) only [go_sem, ↓reduceIte, Nat.reduceEqDiff, Nat.reduceAdd, Nat.reduceMul, Nat.reduceSub, Int.reduceToNat, Nat.reduceBEq, s7], by simp (disch := first | (simp only [go_sem, gb0, eq_self]; done) | omega | (simp only [gl1, gl2]; omega)) only [go_sem, ↓reduceIte, Nat.reduceEqDiff, Nat.reduceAdd, Nat.reduceMul, Nat.reduceSub, Int.reduceToNat, Nat.reduceBEq, s1], by simp (disch := first | (simp only [go_sem, gb0, eq_self]; done) | omega | (simp only [gl1, gl2]; omega)) only [go_sem, ↓reduceIte, Nat.reduceEqDiff, Nat.reduceAdd, Nat.reduceMul, Nat.reduceSub, Int.reduceToNat, Nat.reduceBEq, s2], by simp (disch := first | (simp only [go_sem, gb0, eq_self]; done) | omega | (simp only [gl1, gl2]; omega)) only [go_sem, ↓reduceIte, Nat.reduceEqDiff, Nat.reduceAdd, Nat.reduceMul, Nat.reduceSub, Int.reduceToNat, Nat.reduceBEq, s5], by simp (disch := first | (simp only [go_sem, gb0, eq_self]; done) | omega | (simp only [gl1, gl2]; omega)) only [go_sem, ↓reduceIte, Nat.reduceEqDiff, Nat.reduceAdd, Nat.reduceMul, Nat.reduceSub, Int.reduceToNat, Nat.reduceBEq, s6], by simp (disch := first | (simp only [go_sem, gb0, eq_self]; done) | omega | (simp only [gl1, gl2]; omega)) only [go_sem, ↓reduceIte, Nat.reduceEqDiff, Nat.reduceAdd, Nat.reduceMul, Nat.reduceSub, Int.reduceToNat, Nat.reduceBEq, hnx], by simp (disch := first | (simp only [go_sem, gb0, eq_self]; done) | omega | (simp only [gl1, gl2]; omega)) only [go_sem, ↓reduceIte, Nat.reduceEqDiff, Nat.reduceAdd, Nat.reduceMul, Nat.reduceSub, Int.reduceToNat, Nat.reduceBEq, b0], by simp (disch := first | (simp only [go_sem, gb0, eq_self]; done) | omega | (simp only [gl1, gl2]; omega)) only [go_sem, ↓reduceIte, Nat.reduceEqDiff, Nat.reduceAdd, Nat.reduceMul, Nat.reduceSub, Int.reduceToNat, Nat.reduceBEq]⟩
        · have hs := hset false (by rw [hLi, hh, decide_eq_false hc]; rfl)
          simp (disch := first | (simp only [go_sem, gb0, eq_self]; done) | omega | (simp only [gl1, gl2]; omega)) only [go_sem, ↓reduceIte, Nat.reduceEqDiff, Nat.reduceAdd, Nat.reduceMul, Nat.reduceSub, Int.reduceToNat, Nat.reduceBEq, s1, s2, s5, s6, s7, s8, k57, hh, hc, hin', hlt, b1, hs]
          rw [ForK_normal]
          exact ⟨hlt, by simp (disch := first | (simp only [go_sem, gb0, eq_self]; done) | omega | (simp only [gl1, gl2]; omega)) only [go_sem, ↓reduceIte, Nat.reduceEqDiff, Nat.reduceAdd, Nat.reduceMul, Nat.reduceSub, Int.reduceToNat, Nat.reduceBEq, s7], by simp (disch := first | (simp only [go_sem, gb0, eq_self]; done) | omega | (simp only [gl1, gl2]; omega)) only [go_sem, ↓reduceIte, Nat.reduceEqDiff, Nat.reduceAdd, Nat.reduceMul, Nat.reduceSub, Int.reduceToNat, Nat.reduceBEq, s1], by simp (disch := first | (simp only [go_sem, gb0, eq_self]; done) | omega | (simp only [gl1, gl2]; omega)) only [go_sem, ↓reduceIte, Nat.reduceEqDiff, Nat.reduceAdd, Nat.reduceMul, Nat.reduceSub, Int.reduceToNat, Nat.reduceBEq, s2], by simp (disch := first | (simp only [go_sem, gb0, eq_self]; done) | omega | (simp only [gl1, gl2]; omega)) only [go_sem, ↓reduceIte, Nat.reduceEqDiff, Nat.reduceAdd, Nat.reduceMul, Nat.reduceSub, Int.reduceToNat, Nat.reduceBEq, s5], by simp (disch := first | (simp only [go_sem, gb0, eq_self]; done) | omega | (simp only [gl1, gl2]; omega)) only [go_sem, ↓reduceIte, Nat.reduceEqDiff, Nat.reduceAdd, Nat.reduceMul, Nat.reduceSub, Int.reduceToNat, Nat.reduceBEq, s6], by simp (disch := first | (simp only [go_sem, gb0, eq_self]; done) | omega | (simp only [gl1, gl2]; omega)) only [go_sem, ↓reduceIte, Nat.reduceEqDiff, Nat.reduceAdd, Nat.reduceMul, Nat.reduceSub, Int.reduceToNat, Nat.reduceBEq, hnx], by simp (disch := first | (simp only [go_sem, gb0, eq_self]; done) | omega | (simp only [gl1, gl2]; omega)) only [go_sem, ↓reduceIte, Nat.reduceEqDiff, Nat.reduceAdd, Nat.reduceMul, Nat.reduceSub, Int.reduceToNat, Nat.reduceBEq, b0], by simp (disch := first | (simp only [go_sem, gb0, eq_self]; done) | omega | (simp only [gl1, gl2]; omega)) only [go_sem, ↓reduceIte, Nat.reduceEqDiff, Nat.reduceAdd, Nat.reduceMul, Nat.reduceSub, Int.reduceToNat, Nat.reduceBEq]⟩
  rintro st h ⟨s1, s2, s5, s6, hnx, b0, b1⟩
  simp (disch := first | (simp only [go_sem, gb0, eq_self]; done) | omega | (simp only [gl1, gl2]; omega)) only [go_sem, ↓reduceIte, Nat.reduceEqDiff, Nat.reduceAdd, Nat.reduceMul, Nat.reduceSub, Int.reduceToNat, Nat.reduceBEq, s1, s2, s5, s6]
  refine WP_cut (fun st h => st 1 = LI l ∧ st 2 = .ptr 0 0 ∧ st 5 = I n ∧ st 6 = .sl 1 0 n 1 ∧ ∃ L, h.bl 1 = some (.cells false true (vecB L n)) ∧ Left n (wF nx) (ruleB (xOf n l)) L ∧ stab n (wF nx) L n) ?_ ?_
  · refine WP_loopK (fun m st h => ∃ (g : Bool) (L : Nat → Bool), m = (if g then cntF L + 1 else 0) ∧ st 1 = LI l ∧ st 2 = .ptr 0 0 ∧ st 5 = I n ∧ st 6 = .sl 1 0 n 1 ∧ st 10 = .bool g ∧ h.nx = 2 ∧ h.bl 0 = some (.cells false false [LLI nx, LI pay, LI cost]) ∧ h.bl 1 = some (.cells false true (vecB L n)) ∧ Left n (wF nx) (ruleB (xOf n l)) L ∧ (∀ i, i < n → L0 i = true → L i = true) ∧ (g = false → stab n (wF nx) L n)) (cntF L0 + 1)
      ⟨true, L0, rfl, by simp (disch := first | (simp only [go_sem, gb0, eq_self]; done) | omega | (simp only [gl1, gl2]; omega)) only [go_sem, ↓reduceIte, Nat.reduceEqDiff, Nat.reduceAdd, Nat.reduceMul, Nat.reduceSub, Int.reduceToNat, Nat.reduceBEq, s1], by simp (disch := first | (simp only [go_sem, gb0, eq_self]; done) | omega | (simp only [gl1, gl2]; omega)) only [go_sem, ↓reduceIte, Nat.reduceEqDiff, Nat.reduceAdd, Nat.reduceMul, Nat.reduceSub, Int.reduceToNat, Nat.reduceBEq, s2], by simp (disch := first | (simp only [go_sem, gb0, eq_self]; done) | omega | (simp only [gl1, gl2]; omega)) only [go_sem, ↓reduceIte, Nat.reduceEqDiff, Nat.reduceAdd, Nat.reduceMul, Nat.reduceSub, Int.reduceToNat, Nat.reduceBEq, s5], by simp (disch := first | (simp only [go_sem, gb0, eq_self]; done) | omega | (simp only [gl1, gl2]; omega)) only [go_sem, ↓reduceIte, Nat.reduceEqDiff, Nat.reduceAdd, Nat.reduceMul, Nat.reduceSub, Int.reduceToNat, Nat.reduceBEq, s6], by simp (disch := first | (simp only [go_sem, gb0, eq_self]; done) | omega | (simp only [gl1, gl2]; omega)) only [go_sem, ↓reduceIte, Nat.reduceEqDiff, Nat.reduceAdd, Nat.reduceMul, Nat.reduceSub, Int.reduceToNat, Nat.reduceBEq], hnx, b0, b1, hLL, fun _ _ h => h, fun h => by cases h⟩ ?_
    rintro m st h ⟨g, L, rfl, s1, s2, s5, s6, s10, hnx, b0, b1, hL, hsub, hg⟩
    cases g with
    | false =>
      simp (disch := first | (simp only [go_sem, gb0, eq_self]; done) | omega | (simp only [gl1, gl2]; omega)) only [go_sem, ↓reduceIte, Nat.reduceEqDiff, Nat.reduceAdd, Nat.reduceMul, Nat.reduceSub, Int.reduceToNat, Nat.reduceBEq, s1, s2, s5, s6, s10]
      exact ⟨L, b1, hL, hg rfl⟩
    | true =>
    simp (disch := first | (simp only [go_sem, gb0, eq_self]; done) | omega | (simp only [gl1, gl2]; omega)) only [go_sem, ↓reduceIte, Nat.reduceEqDiff, Nat.reduceAdd, Nat.reduceMul, Nat.reduceSub, Int.reduceToNat, Nat.reduceBEq, s1, s2, s5, s6, s10]
    refine WP_cut (fun st h => st 1 = LI l ∧ st 2 = .ptr 0 0 ∧ st 5 = I n ∧ st 6 = .sl 1 0 n 1 ∧ h.nx = 2 ∧ h.bl 0 = some (.cells false false [LLI nx, LI pay, LI cost]) ∧ ∃ (g : Bool) (L' : Nat → Bool), st 10 = .bool g ∧ h.bl 1 = some (.cells false true (vecB L' n)) ∧ Left n (wF nx) (ruleB (xOf n l)) L' ∧ (∀ i, i < n → L0 i = true → L' i = true) ∧ (g = true → cntF L' < cntF L) ∧ (g = false → stab n (wF nx) L' n)) ?_ ?_
    · refine WP_for 11 n (fun i st h => st 1 = LI l ∧ st 2 = .ptr 0 0 ∧ st 5 = I n ∧ st 6 = .sl 1 0 n 1 ∧ h.nx = 2 ∧ h.bl 0 = some (.cells false false [LLI nx, LI pay, LI cost]) ∧ ∃ (g : Bool) (L' : Nat → Bool), st 10 = .bool g ∧ h.bl 1 = some (.cells false true (vecB L' n)) ∧ Left n (wF nx) (ruleB (xOf n l)) L' ∧ (∀ i, i < n → L0 i = true → L' i = true) ∧ (g = true → cntF L' < cntF L) ∧ (g = false → L' = L ∧ stab n (wF nx) L i)) (by simp (disch := first | (simp only [go_sem, gb0, eq_self]; done) | omega | (simp only [gl1, gl2]; omega)) only [go_sem, ↓reduceIte, Nat.reduceEqDiff, Nat.reduceAdd, Nat.reduceMul, Nat.reduceSub, Int.reduceToNat, Nat.reduceBEq])
        ⟨by simp (disch := first | (simp only [go_sem, gb0, eq_self]; done) | omega | (simp only [gl1, gl2]; omega)) only [go_sem, ↓reduceIte, Nat.reduceEqDiff, Nat.reduceAdd, Nat.reduceMul, Nat.reduceSub, Int.reduceToNat, Nat.reduceBEq, s1], by simp (disch := first | (simp only [go_sem, gb0, eq_self]; done) | omega | (simp only [gl1, gl2]; omega)) only [go_sem, ↓reduceIte, Nat.reduceEqDiff, Nat.reduceAdd, Nat.reduceMul, Nat.reduceSub, Int.reduceToNat, Nat.reduceBEq, s2], by simp (disch := first | (simp only [go_sem, gb0, eq_self]; done) | omega | (simp only [gl1, gl2]; omega)) only [go_sem, ↓reduceIte, Nat.reduceEqDiff, Nat.reduceAdd, Nat.reduceMul, Nat.reduceSub, Int.reduceToNat, Nat.reduceBEq, s5], by simp (disch := first | (simp only [go_sem, gb0, eq_self]; done) | omega | (simp only [gl1, gl2]; omega)) only [go_sem, ↓reduceIte, Nat.reduceEqDiff, Nat.reduceAdd, Nat.reduceMul, Nat.reduceSub, Int.reduceToNat, Nat.reduceBEq, s6], hnx, b0, false, L, by simp (disch := first | (simp only [go_sem, gb0, eq_self]; done) | omega | (simp only [gl1, gl2]; omega)) only [go_sem, ↓reduceIte, Nat.reduceEqDiff, Nat.reduceAdd, Nat.reduceMul, Nat.reduceSub, Int.reduceToNat, Nat.reduceBEq], b1, hL, hsub, fun h => (by cases h), fun _ => ⟨rfl, fun i hi => by omega⟩⟩ ?_
      rintro i st h hi s11 ⟨s1, s2, s5, s6, hnx, b0, g, L', s10, b1, hL', hsub', hg1, hg2⟩
      by_cases hlt : i < n
      case neg =>
        have hie : i = n := by omega
        subst hie
        simp (disch := first | (simp only [go_sem, gb0, eq_self]; done) | omega | (simp only [gl1, gl2]; omega)) only [go_sem, ↓reduceIte, Nat.reduceEqDiff, Nat.reduceAdd, Nat.reduceMul, Nat.reduceSub, Int.reduceToNat, Nat.reduceBEq, s1, s2, s5, s6, s10, s11, hlt]
        exact ⟨hnx, b0, g, L', rfl, b1, hL', hsub', hg1, fun h => by obtain ⟨e, s⟩ := hg2 h; rw [e]; exact s⟩
      have hi1 : i < nx.length := by omega
      have hi1' : (i : Int) < nx.length := by omega
      have hin' : (i : Int) < n := by omega
      have hi6 : i < 6 := by omega
      have hrow := C.row i hi1
      have hle : cntF L' ≤ cntF L := by
        cases g with
        | true => exact Nat.le_of_lt (hg1 rfl)
        | false => rw [(hg2 rfl).1]; exact Nat.le_refl _
      simp (disch := first | (simp only [go_sem, gb0, eq_self]; done) | omega | (simp only [gl1, gl2]; omega)) only [go_sem, ↓reduceIte, Nat.reduceEqDiff, Nat.reduceAdd, Nat.reduceMul, Nat.reduceSub, Int.reduceToNat, Nat.reduceBEq, s1, s2, s5, s6, s10, s11, hlt]
      refine WP_cut (fun st h => st 1 = LI l ∧ st 2 = .ptr 0 0 ∧ st 5 = I n ∧ st 6 = .sl 1 0 n 1 ∧ st 11 = I i ∧ h.nx = 2 ∧ h.bl 0 = some (.cells false false [LLI nx, LI pay, LI cost]) ∧
          ((st 10 = .bool g ∧ h.bl 1 = some (.cells false true (vecB L' n)) ∧ (L' i = true ∨ leads (wF nx) L' i n = false)) ∨ (st 10 = .bool true ∧ L' i = false ∧ leads (wF nx) L' i n = true ∧ h.bl 1 = some (.cells false true (vecB (setB L' i true) n))))) ?_ ?_
      · refine WP_for 12 n (fun j st h => st 1 = LI l ∧ st 2 = .ptr 0 0 ∧ st 5 = I n ∧ st 6 = .sl 1 0 n 1 ∧ st 11 = I i ∧ h.nx = 2 ∧ h.bl 0 = some (.cells false false [LLI nx, LI pay, LI cost]) ∧
            ((st 10 = .bool g ∧ h.bl 1 = some (.cells false true (vecB L' n)) ∧ leads (wF nx) L' i j = false) ∨ (st 10 = .bool true ∧ L' i = false ∧ leads (wF nx) L' i n = true ∧ h.bl 1 = some (.cells false true (vecB (setB L' i true) n))))) (by simp (disch := first | (simp only [go_sem, gb0, eq_self]; done) | omega | (simp only [gl1, gl2]; omega)) only [go_sem, ↓reduceIte, Nat.reduceEqDiff, Nat.reduceAdd, Nat.reduceMul, Nat.reduceSub, Int.reduceToNat, Nat.reduceBEq])
          ⟨by simp (disch := first | (simp only [go_sem, gb0, eq_self]; done) | omega | (simp only [gl1, gl2]; omega)) only [go_sem, ↓reduceIte, Nat.reduceEqDiff, Nat.reduceAdd, Nat.reduceMul, Nat.reduceSub, Int.reduceToNat, Nat.reduceBEq, s1], by simp (disch := first | (simp only [go_sem, gb0, eq_self]; done) | omega | (simp only [gl1, gl2]; omega)) only [go_sem, ↓reduceIte, Nat.reduceEqDiff, Nat.reduceAdd, Nat.reduceMul, Nat.reduceSub, Int.reduceToNat, Nat.reduceBEq, s2], by simp (disch := first | (simp only [go_sem, gb0, eq_self]; done) | omega | (simp only [gl1, gl2]; omega)) only [go_sem, ↓reduceIte, Nat.reduceEqDiff, Nat.reduceAdd, Nat.reduceMul, Nat.reduceSub, Int.reduceToNat, Nat.reduceBEq, s5], by simp (disch := first | (simp only [go_sem, gb0, eq_self]; done) | omega | (simp only [gl1, gl2]; omega)) only [go_sem, ↓reduceIte, Nat.reduceEqDiff, Nat.reduceAdd, Nat.reduceMul, Nat.reduceSub, Int.reduceToNat, Nat.reduceBEq, s6], by simp (disch := first | (simp only [go_sem, gb0, eq_self]; done) | omega | (simp only [gl1, gl2]; omega)) only [go_sem, ↓reduceIte, Nat.reduceEqDiff, Nat.reduceAdd, Nat.reduceMul, Nat.reduceSub, Int.reduceToNat, Nat.reduceBEq, s11], hnx, b0, .inl ⟨by simp (disch := first | (simp only [go_sem, gb0, eq_self]; done) | omega | (simp only [gl1, gl2]; omega)) only [go_sem, ↓reduceIte, Nat.reduceEqDiff, Nat.reduceAdd, Nat.reduceMul, Nat.reduceSub, Int.reduceToNat, Nat.reduceBEq, s10], b1, rfl⟩⟩ ?_
        rintro j st h hj s12 ⟨s1, s2, s5, s6, s11, hnx, b0, hcase⟩
        rcases hcase with ⟨s10, b1, hno⟩ | ⟨s10, hli, hyes, b1⟩
        case inr =>
          have hat := setB_at L' i true
          by_cases hjn : j < n
          · simp (disch := first | (simp only [go_sem, gb0, eq_self]; done) | omega | (simp only [gl1, gl2]; omega)) only [go_sem, ↓reduceIte, Nat.reduceEqDiff, Nat.reduceAdd, Nat.reduceMul, Nat.reduceSub, Int.reduceToNat, Nat.reduceBEq, s1, s2, s5, s6, s10, s11, s12, hjn, hin', hlt, b1, hat]
            refine ⟨hnx, b0, ?_⟩
            right; simp [hli, hyes, b1]
          · simp (disch := first | (simp only [go_sem, gb0, eq_self]; done) | omega | (simp only [gl1, gl2]; omega)) only [go_sem, ↓reduceIte, Nat.reduceEqDiff, Nat.reduceAdd, Nat.reduceMul, Nat.reduceSub, Int.reduceToNat, Nat.reduceBEq, s1, s2, s5, s6, s10, s11, s12, hjn]
            refine ⟨hnx, b0, ?_⟩
            right; simp [hli, hyes, b1]
        by_cases hjn : j < n
        case neg =>
          have hje : j = n := by omega
          subst hje
          simp (disch := first | (simp only [go_sem, gb0, eq_self]; done) | omega | (simp only [gl1, gl2]; omega)) only [go_sem, ↓reduceIte, Nat.reduceEqDiff, Nat.reduceAdd, Nat.reduceMul, Nat.reduceSub, Int.reduceToNat, Nat.reduceBEq, s1, s2, s5, s6, s10, s11, s12, hjn]
          refine ⟨hnx, b0, ?_⟩
          left; simp [hno, b1]
        cases hli : L' i with
        | true =>
          simp (disch := first | (simp only [go_sem, gb0, eq_self]; done) | omega | (simp only [gl1, gl2]; omega)) only [go_sem, ↓reduceIte, Nat.reduceEqDiff, Nat.reduceAdd, Nat.reduceMul, Nat.reduceSub, Int.reduceToNat, Nat.reduceBEq, s1, s2, s5, s6, s10, s11, s12, hjn, hin', hlt, b1, hli]
          refine ⟨hnx, b0, ?_⟩
          left; simp [hli, b1]
        | false =>
          have hjr : j < (nth nx i).length := by omega
          have hjr' : (j : Int) < (nth nx i).length := by omega
          have hjn' : (j : Int) < n := by omega
          have hst := leads_step (wF nx) L' i j
          rw [hno, Bool.false_or] at hst
          by_cases hw : 0 < nth (nth nx i) j
          · have hst2 : leads (wF nx) L' i (j + 1) = L' j := by rw [hst]; show (decide (0 < nth (nth nx i) j) && L' j) = L' j; simp [hw]
            cases hlj : L' j with
            | true =>
              have hall : leads (wF nx) L' i n = true := List.any_eq_true.2 ⟨j, List.mem_range.2 hjn, by show (decide (0 < nth (nth nx i) j) && L' j) = true; simp [hw, hlj]⟩
              simp (disch := first | (simp only [go_sem, gb0, eq_self]; done) | omega | (simp only [gl1, gl2]; omega)) only [go_sem, ↓reduceIte, Nat.reduceEqDiff, Nat.reduceAdd, Nat.reduceMul, Nat.reduceSub, Int.reduceToNat, Nat.reduceBEq, s1, s2, s5, s6, s10, s11, s12, hjn, hin', hlt, b0, b1, hli, hi1, hi1', hjr, hjr', hjn', hw, hlj]
              rw [ForK_normal]
              exact ⟨hjn, by simp (disch := first | (simp only [go_sem, gb0, eq_self]; done) | omega | (simp only [gl1, gl2]; omega)) only [go_sem, ↓reduceIte, Nat.reduceEqDiff, Nat.reduceAdd, Nat.reduceMul, Nat.reduceSub, Int.reduceToNat, Nat.reduceBEq, s12], by simp (disch := first | (simp only [go_sem, gb0, eq_self]; done) | omega | (simp only [gl1, gl2]; omega)) only [go_sem, ↓reduceIte, Nat.reduceEqDiff, Nat.reduceAdd, Nat.reduceMul, Nat.reduceSub, Int.reduceToNat, Nat.reduceBEq, s1], by simp (disch := first | (simp only [go_sem, gb0, eq_self]; done) | omega | (simp only [gl1, gl2]; omega)) only [go_sem, ↓reduceIte, Nat.reduceEqDiff, Nat.reduceAdd, Nat.reduceMul, Nat.reduceSub, Int.reduceToNat, Nat.reduceBEq, s2], by simp (disch := first | (simp only [go_sem, gb0, eq_self]; done) | omega | (simp only [gl1, gl2]; omega)) only [go_sem, ↓reduceIte, Nat.reduceEqDiff, Nat.reduceAdd, Nat.reduceMul, Nat.reduceSub, Int.reduceToNat, Nat.reduceBEq, s5], by simp (disch := first | (simp only [go_sem, gb0, eq_self]; done) | omega | (simp only [gl1, gl2]; omega)) only [go_sem, ↓reduceIte, Nat.reduceEqDiff, Nat.reduceAdd, Nat.reduceMul, Nat.reduceSub, Int.reduceToNat, Nat.reduceBEq, s6], by simp (disch := first | (simp only [go_sem, gb0, eq_self]; done) | omega | (simp only [gl1, gl2]; omega)) only [go_sem, ↓reduceIte, Nat.reduceEqDiff, Nat.reduceAdd, Nat.reduceMul, Nat.reduceSub, Int.reduceToNat, Nat.reduceBEq, s11], by simp (disch := first | (simp only [go_sem, gb0, eq_self]; done) | omega | (simp only [gl1, gl2]; omega)) only [go_sem, ↓reduceIte, Nat.reduceEqDiff, Nat.reduceAdd, Nat.reduceMul, Nat.reduceSub, Int.reduceToNat, Nat.reduceBEq, hnx], by simp (disch := first | (simp only [go_sem, gb0, eq_self]; done) | omega | (simp only [gl1, gl2]; omega)) only [go_sem, ↓reduceIte, Nat.reduceEqDiff, Nat.reduceAdd, Nat.reduceMul, Nat.reduceSub, Int.reduceToNat, Nat.reduceBEq, b0], .inr ⟨by simp (disch := first | (simp only [go_sem, gb0, eq_self]; done) | omega | (simp only [gl1, gl2]; omega)) only [go_sem, ↓reduceIte, Nat.reduceEqDiff, Nat.reduceAdd, Nat.reduceMul, Nat.reduceSub, Int.reduceToNat, Nat.reduceBEq], hall, by simp (disch := first | (simp only [go_sem, gb0, eq_self]; done) | omega | (simp only [gl1, gl2]; omega)) only [go_sem, ↓reduceIte, Nat.reduceEqDiff, Nat.reduceAdd, Nat.reduceMul, Nat.reduceSub, Int.reduceToNat, Nat.reduceBEq]⟩⟩
            | false =>
              simp (disch := first | (simp only [go_sem, gb0, eq_self]; done) | omega | (simp only [gl1, gl2]; omega)) only [go_sem, ↓reduceIte, Nat.reduceEqDiff, Nat.reduceAdd, Nat.reduceMul, Nat.reduceSub, Int.reduceToNat, Nat.reduceBEq, s1, s2, s5, s6, s10, s11, s12, hjn, hin', hlt, b0, b1, hli, hi1, hi1', hjr, hjr', hjn', hw, hlj]
              rw [ForK_normal]
              exact ⟨hjn, by simp (disch := first | (simp only [go_sem, gb0, eq_self]; done) | omega | (simp only [gl1, gl2]; omega)) only [go_sem, ↓reduceIte, Nat.reduceEqDiff, Nat.reduceAdd, Nat.reduceMul, Nat.reduceSub, Int.reduceToNat, Nat.reduceBEq, s12], by simp (disch := first | (simp only [go_sem, gb0, eq_self]; done) | omega | (simp only [gl1, gl2]; omega)) only [go_sem, ↓reduceIte, Nat.reduceEqDiff, Nat.reduceAdd, Nat.reduceMul, Nat.reduceSub, Int.reduceToNat, Nat.reduceBEq, s1], by simp (disch := first | (simp only [go_sem, gb0, eq_self]; done) | omega | (simp only [gl1, gl2]; omega)) only [go_sem, ↓reduceIte, Nat.reduceEqDiff, Nat.reduceAdd, Nat.reduceMul, Nat.reduceSub, Int.reduceToNat, Nat.reduceBEq, s2], by simp (disch := first | (simp only [go_sem, gb0, eq_self]; done) | omega | (simp only [gl1, gl2]; omega)) only [go_sem, ↓reduceIte, Nat.reduceEqDiff, Nat.reduceAdd, Nat.reduceMul, Nat.reduceSub, Int.reduceToNat, Nat.reduceBEq, s5], by simp (disch := first | (simp only [go_sem, gb0, eq_self]; done) | omega | (simp only [gl1, gl2]; omega)) only [go_sem, ↓reduceIte, Nat.reduceEqDiff, Nat.reduceAdd, Nat.reduceMul, Nat.reduceSub, Int.reduceToNat, Nat.reduceBEq, s6], by simp (disch := first | (simp only [go_sem, gb0, eq_self]; done) | omega | (simp only [gl1, gl2]; omega)) only [go_sem, ↓reduceIte, Nat.reduceEqDiff, Nat.reduceAdd, Nat.reduceMul, Nat.reduceSub, Int.reduceToNat, Nat.reduceBEq, s11], by simp (disch := first | (simp only [go_sem, gb0, eq_self]; done) | omega | (simp only [gl1, gl2]; omega)) only [go_sem, ↓reduceIte, Nat.reduceEqDiff, Nat.reduceAdd, Nat.reduceMul, Nat.reduceSub, Int.reduceToNat, Nat.reduceBEq, hnx], by simp (disch := first | (simp only [go_sem, gb0, eq_self]; done) | omega | (simp only [gl1, gl2]; omega)) only [go_sem, ↓reduceIte, Nat.reduceEqDiff, Nat.reduceAdd, Nat.reduceMul, Nat.reduceSub, Int.reduceToNat, Nat.reduceBEq, b0], .inl ⟨by simp (disch := first | (simp only [go_sem, gb0, eq_self]; done) | omega | (simp only [gl1, gl2]; omega)) only [go_sem, ↓reduceIte, Nat.reduceEqDiff, Nat.reduceAdd, Nat.reduceMul, Nat.reduceSub, Int.reduceToNat, Nat.reduceBEq, s10], b1, by rw [hst2, hlj]⟩⟩
          · have hst2 : leads (wF nx) L' i (j + 1) = false := by rw [hst]; show (decide (0 < nth (nth nx i) j) && L' j) = false; simp [hw]
            simp (disch := first | (simp only [go_sem, gb0, eq_self]; done) | omega | (simp only [gl1, gl2]; omega)) only [go_sem, ↓reduceIte, Nat.reduceEqDiff, Nat.reduceAdd, Nat.reduceMul, Nat.reduceSub, Int.reduceToNat, Nat.reduceBEq, s1, s2, s5, s6, s10, s11, s12, hjn, hin', hlt, b0, b1, hli, hi1, hi1', hjr, hjr', hjn', hw]
            rw [ForK_normal]
            exact ⟨hjn, by simp (disch := first | (simp only [go_sem, gb0, eq_self]; done) | omega | (simp only [gl1, gl2]; omega)) only [go_sem, ↓reduceIte, Nat.reduceEqDiff, Nat.reduceAdd, Nat.reduceMul, Nat.reduceSub, Int.reduceToNat, Nat.reduceBEq, s12], by simp (disch := first | (simp only [go_sem, gb0, eq_self]; done) | omega | (simp only [gl1, gl2]; omega)) only [go_sem, ↓reduceIte, Nat.reduceEqDiff, Nat.reduceAdd, Nat.reduceMul, Nat.reduceSub, Int.reduceToNat, Nat.reduceBEq, s1], by simp (disch := first | (simp only [go_sem, gb0, eq_self]; done) | omega | (simp only [gl1, gl2]; omega)) only [go_sem, ↓reduceIte, Nat.reduceEqDiff, Nat.reduceAdd, Nat.reduceMul, Nat.reduceSub, Int.reduceToNat, Nat.reduceBEq, s2], by simp (disch := first | (simp only [go_sem, gb0, eq_self]; done) | omega | (simp only [gl1, gl2]; omega)) only [go_sem, ↓reduceIte, Nat.reduceEqDiff, Nat.reduceAdd, Nat.reduceMul, Nat.reduceSub, Int.reduceToNat, Nat.reduceBEq, s5], by simp (disch := first | (simp only [go_sem, gb0, eq_self]; done) | omega | (simp only [gl1, gl2]; omega)) only [go_sem, ↓reduceIte, Nat.reduceEqDiff, Nat.reduceAdd, Nat.reduceMul, Nat.reduceSub, Int.reduceToNat, Nat.reduceBEq, s6], by simp (disch := first | (simp only [go_sem, gb0, eq_self]; done) | omega | (simp only [gl1, gl2]; omega)) only [go_sem, ↓reduceIte, Nat.reduceEqDiff, Nat.reduceAdd, Nat.reduceMul, Nat.reduceSub, Int.reduceToNat, Nat.reduceBEq, s11], by simp (disch := first | (simp only [go_sem, gb0, eq_self]; done) | omega | (simp only [gl1, gl2]; omega)) only [go_sem, ↓reduceIte, Nat.reduceEqDiff, Nat.reduceAdd, Nat.reduceMul, Nat.reduceSub, Int.reduceToNat, Nat.reduceBEq, hnx], by simp (disch := first | (simp only [go_sem, gb0, eq_self]; done) | omega | (simp only [gl1, gl2]; omega)) only [go_sem, ↓reduceIte, Nat.reduceEqDiff, Nat.reduceAdd, Nat.reduceMul, Nat.reduceSub, Int.reduceToNat, Nat.reduceBEq, b0], .inl ⟨by simp (disch := first | (simp only [go_sem, gb0, eq_self]; done) | omega | (simp only [gl1, gl2]; omega)) only [go_sem, ↓reduceIte, Nat.reduceEqDiff, Nat.reduceAdd, Nat.reduceMul, Nat.reduceSub, Int.reduceToNat, Nat.reduceBEq, s10], b1, hst2⟩⟩
      · rintro st h ⟨s1, s2, s5, s6, s11, hnx, b0, hcase⟩
        rcases hcase with ⟨s10, b1, hno⟩ | ⟨s10, hli, hyes, b1⟩
        · simp (disch := first | (simp only [go_sem, gb0, eq_self]; done) | omega | (simp only [gl1, gl2]; omega)) only [go_sem, ↓reduceIte, Nat.reduceEqDiff, Nat.reduceAdd, Nat.reduceMul, Nat.reduceSub, Int.reduceToNat, Nat.reduceBEq, s1, s2, s5, s6, s10, s11]
          rw [ForK_normal]
          refine ⟨hlt, by simp (disch := first | (simp only [go_sem, gb0, eq_self]; done) | omega | (simp only [gl1, gl2]; omega)) only [go_sem, ↓reduceIte, Nat.reduceEqDiff, Nat.reduceAdd, Nat.reduceMul, Nat.reduceSub, Int.reduceToNat, Nat.reduceBEq, s11], by simp (disch := first | (simp only [go_sem, gb0, eq_self]; done) | omega | (simp only [gl1, gl2]; omega)) only [go_sem, ↓reduceIte, Nat.reduceEqDiff, Nat.reduceAdd, Nat.reduceMul, Nat.reduceSub, Int.reduceToNat, Nat.reduceBEq, s1], by simp (disch := first | (simp only [go_sem, gb0, eq_self]; done) | omega | (simp only [gl1, gl2]; omega)) only [go_sem, ↓reduceIte, Nat.reduceEqDiff, Nat.reduceAdd, Nat.reduceMul, Nat.reduceSub, Int.reduceToNat, Nat.reduceBEq, s2], by simp (disch := first | (simp only [go_sem, gb0, eq_self]; done) | omega | (simp only [gl1, gl2]; omega)) only [go_sem, ↓reduceIte, Nat.reduceEqDiff, Nat.reduceAdd, Nat.reduceMul, Nat.reduceSub, Int.reduceToNat, Nat.reduceBEq, s5], by simp (disch := first | (simp only [go_sem, gb0, eq_self]; done) | omega | (simp only [gl1, gl2]; omega)) only [go_sem, ↓reduceIte, Nat.reduceEqDiff, Nat.reduceAdd, Nat.reduceMul, Nat.reduceSub, Int.reduceToNat, Nat.reduceBEq, s6], hnx, b0, g, L', by simp (disch := first | (simp only [go_sem, gb0, eq_self]; done) | omega | (simp only [gl1, gl2]; omega)) only [go_sem, ↓reduceIte, Nat.reduceEqDiff, Nat.reduceAdd, Nat.reduceMul, Nat.reduceSub, Int.reduceToNat, Nat.reduceBEq, s10], b1, hL', hsub', hg1, fun h => ?_⟩
          obtain ⟨e, s⟩ := hg2 h
          refine ⟨e, fun k hk hlk => ?_⟩
          by_cases hki : k = i
          · subst hki
            rw [← e] at hlk ⊢
            rcases hno with hno | hno
            · rw [hlk] at hno; cases hno
            · refine ⟨h4 k hlt ?_, leads_no hno⟩
              cases hl0 : L0 k with
              | false => rfl
              | true => rw [hsub' k hlt hl0] at hlk; cases hlk
          · exact s k (by omega) hlk
        · simp (disch := first | (simp only [go_sem, gb0, eq_self]; done) | omega | (simp only [gl1, gl2]; omega)) only [go_sem, ↓reduceIte, Nat.reduceEqDiff, Nat.reduceAdd, Nat.reduceMul, Nat.reduceSub, Int.reduceToNat, Nat.reduceBEq, s1, s2, s5, s6, s10, s11]
          rw [ForK_normal]
          refine ⟨hlt, by simp (disch := first | (simp only [go_sem, gb0, eq_self]; done) | omega | (simp only [gl1, gl2]; omega)) only [go_sem, ↓reduceIte, Nat.reduceEqDiff, Nat.reduceAdd, Nat.reduceMul, Nat.reduceSub, Int.reduceToNat, Nat.reduceBEq, s11], by simp (disch := first | (simp only [go_sem, gb0, eq_self]; done) | omega | (simp only [gl1, gl2]; omega)) only [go_sem, ↓reduceIte, Nat.reduceEqDiff, Nat.reduceAdd, Nat.reduceMul, Nat.reduceSub, Int.reduceToNat, Nat.reduceBEq, s1], by simp (disch := first | (simp only [go_sem, gb0, eq_self]; done) | omega | (simp only [gl1, gl2]; omega)) only [go_sem, ↓reduceIte, Nat.reduceEqDiff, Nat.reduceAdd, Nat.reduceMul, Nat.reduceSub, Int.reduceToNat, Nat.reduceBEq, s2], by simp (disch := first | (simp only [go_sem, gb0, eq_self]; done) | omega | (simp only [gl1, gl2]; omega)) only [go_sem, ↓reduceIte, Nat.reduceEqDiff, Nat.reduceAdd, Nat.reduceMul, Nat.reduceSub, Int.reduceToNat, Nat.reduceBEq, s5], by simp (disch := first | (simp only [go_sem, gb0, eq_self]; done) | omega | (simp only [gl1, gl2]; omega)) only [go_sem, ↓reduceIte, Nat.reduceEqDiff, Nat.reduceAdd, Nat.reduceMul, Nat.reduceSub, Int.reduceToNat, Nat.reduceBEq, s6], hnx, b0, true, setB L' i true, by simp (disch := first | (simp only [go_sem, gb0, eq_self]; done) | omega | (simp only [gl1, gl2]; omega)) only [go_sem, ↓reduceIte, Nat.reduceEqDiff, Nat.reduceAdd, Nat.reduceMul, Nat.reduceSub, Int.reduceToNat, Nat.reduceBEq, s10], b1, hL'.grow CC hlt (by rw [hyes]; rfl), fun k hk hl0 => ?_, fun _ => ?_, fun h => by cases h⟩
          · unfold setB; split
            · rfl
            · exact hsub' k hk hl0
          · have := cntF_set hi6 hli; omega
    · rintro st h ⟨s1, s2, s5, s6, hnx, b0, g, L', s10, b1, hL', hsub', hg1, hg2⟩
      rw [BlockK_normal, LoopK_normal]
      refine ⟨if g then cntF L' + 1 else 0, ?_, g, L', rfl, s1, s2, s5, s6, s10, hnx, b0, b1, hL', hsub', hg2⟩
      cases g with
      | true => have := hg1 rfl; simp only [if_true]; omega
      | false => simp
  · rintro st h ⟨s1, s2, s5, s6, L, b1, hL, hS⟩
    have hsd := hL.sound hS
    have hres : ∀ b, (b = true ↔ ∀ i, i < n → L i = true) → sndB n (wF nx) (xOf n l) = b := fun b hb => by
      have : sndB n (wF nx) (xOf n l) = true ↔ b = true := by rw [sndB_iff, hsd, hb]
      cases b with
      | true => exact this.2 rfl
      | false => exact Bool.eq_false_iff.2 fun h => by cases this.1 h
    simp (disch := first | (simp only [go_sem, gb0, eq_self]; done) | omega | (simp only [gl1, gl2]; omega)) only [go_sem, ↓reduceIte, Nat.reduceEqDiff, Nat.reduceAdd, Nat.reduceMul, Nat.reduceSub, Int.reduceToNat, Nat.reduceBEq, s1, s2, s5, s6]
    refine WP_for 13 n (fun i st h => st 5 = I n ∧ st 6 = .sl 1 0 n 1 ∧ h.bl 1 = some (.cells false true (vecB L n)) ∧ ∀ k, k < i → L k = true) (by simp (disch := first | (simp only [go_sem, gb0, eq_self]; done) | omega | (simp only [gl1, gl2]; omega)) only [go_sem, ↓reduceIte, Nat.reduceEqDiff, Nat.reduceAdd, Nat.reduceMul, Nat.reduceSub, Int.reduceToNat, Nat.reduceBEq]) ⟨by simp (disch := first | (simp only [go_sem, gb0, eq_self]; done) | omega | (simp only [gl1, gl2]; omega)) only [go_sem, ↓reduceIte, Nat.reduceEqDiff, Nat.reduceAdd, Nat.reduceMul, Nat.reduceSub, Int.reduceToNat, Nat.reduceBEq, s5], by simp (disch := first | (simp only [go_sem, gb0, eq_self]; done) | omega | (simp only [gl1, gl2]; omega)) only [go_sem, ↓reduceIte, Nat.reduceEqDiff, Nat.reduceAdd, Nat.reduceMul, Nat.reduceSub, Int.reduceToNat, Nat.reduceBEq, s6], b1, fun k hk => by omega⟩ ?_
    rintro i st h hi s13 ⟨s5, s6, b1, hall⟩
    by_cases hlt : i < n
    case neg =>
      have hr := hres true ⟨fun _ k hk => hall k (by omega), fun _ => rfl⟩
      simp (disch := first | (simp only [go_sem, gb0, eq_self]; done) | omega | (simp only [gl1, gl2]; omega)) only [go_sem, ↓reduceIte, Nat.reduceEqDiff, Nat.reduceAdd, Nat.reduceMul, Nat.reduceSub, Int.reduceToNat, Nat.reduceBEq, s5, s6, s13, hlt, hr]
    have hin' : (i : Int) < n := by omega
    cases hli : L i with
    | true =>
      simp (disch := first | (simp only [go_sem, gb0, eq_self]; done) | omega | (simp only [gl1, gl2]; omega)) only [go_sem, ↓reduceIte, Nat.reduceEqDiff, Nat.reduceAdd, Nat.reduceMul, Nat.reduceSub, Int.reduceToNat, Nat.reduceBEq, s5, s6, s13, hlt, hin', b1, hli]
      rw [ForK_normal]
      refine ⟨hlt, by simp (disch := first | (simp only [go_sem, gb0, eq_self]; done) | omega | (simp only [gl1, gl2]; omega)) only [go_sem, ↓reduceIte, Nat.reduceEqDiff, Nat.reduceAdd, Nat.reduceMul, Nat.reduceSub, Int.reduceToNat, Nat.reduceBEq, s13], by simp (disch := first | (simp only [go_sem, gb0, eq_self]; done) | omega | (simp only [gl1, gl2]; omega)) only [go_sem, ↓reduceIte, Nat.reduceEqDiff, Nat.reduceAdd, Nat.reduceMul, Nat.reduceSub, Int.reduceToNat, Nat.reduceBEq, s5], by simp (disch := first | (simp only [go_sem, gb0, eq_self]; done) | omega | (simp only [gl1, gl2]; omega)) only [go_sem, ↓reduceIte, Nat.reduceEqDiff, Nat.reduceAdd, Nat.reduceMul, Nat.reduceSub, Int.reduceToNat, Nat.reduceBEq, s6], b1, fun k hk => ?_⟩
      by_cases hki : k = i
      · subst hki; exact hli
      · exact hall k (by omega)
    | false =>
      have hr := hres false ⟨fun h => (by cases h), fun h => (by rw [h i hlt] at hli; cases hli)⟩
      simp (disch := first | (simp only [go_sem, gb0, eq_self]; done) | omega | (simp only [gl1, gl2]; omega)) only [go_sem, ↓reduceIte, Nat.reduceEqDiff, Nat.reduceAdd, Nat.reduceMul, Nat.reduceSub, Int.reduceToNat, Nat.reduceBEq, s5, s6, s13, hlt, hin', b1, hli, hr]
end Go.Proofs.Ytgamcclfdkpcgaa

set_option linter.unusedVariables false
set_option linter.unusedSimpArgs false
set_option maxRecDepth 10000
namespace Go.Proofs.Ytgamcclfdkpcgaa
open Go Go.Am

variable {h h' : Hp} {K : AV → Hp → Prop}

/-- The numbers below m with a property. -/
def filtL (P : Nat → Bool) (m : Nat) : List Int := ((List.range m).filter P).map fun k : Nat => (k : Int)
theorem filtL_succ (P : Nat → Bool) (m : Nat) : filtL P (m + 1) = if P m then filtL P m ++ [(m : Int)] else filtL P m := by
  unfold filtL
  rw [List.range_succ, List.filter_append, List.map_append]
  cases hp : P m <;> simp [List.filter_cons, hp]
theorem filtL_len (P : Nat → Bool) (m : Nat) : (filtL P m).length ≤ m := by
  unfold filtL
  rw [List.length_map]
  have := List.length_filter_le P (List.range m)
  rwa [List.length_range] at this
theorem filtL_has (P : Nat → Bool) {n i : Nat} (hi : i < n) : hasB (filtL P n) i = P i := by
  unfold hasB filtL
  rw [List.any_map]
  cases hp : P i with
  | true => exact List.any_eq_true.2 ⟨i, List.mem_filter.2 ⟨List.mem_range.2 hi, hp⟩, by simp⟩
  | false =>
    refine List.any_eq_false.2 fun k hk => ?_
    have h1 := (List.mem_filter.1 hk).2
    simp only [Function.comp, decide_eq_true_eq]
    intro e
    have : k = i := by omega
    rw [this, hp] at h1; cases h1
theorem store_pair (id i : Nat) (row : Bool) (ps : List (Int × Int)) (a b : Int) (hi : i < ps.length) :
    storeC h id (i * 2) 2 (some (.cells false row (ps.flatMap eP))) [I a, I b] = some (.skp, h.put id (some (.cells false row ((ps.set i (a, b)).flatMap eP)))) := by
  have hl : (ps.flatMap eP).length = ps.length * 2 := flatMap_len (f := eP) (sz := 2) ps
  rw [storeC_many id _ 2 row _ _ rfl rfl (by rw [hl]; omega)]
  congr 5
  simp only [setL]
  clear hl
  induction ps generalizing i with
  | nil => simp at hi
  | cons p ps ih =>
    cases i with
    | zero => rfl
    | succ i =>
      have := ih i (by simpa using hi)
      rw [show (i + 1) * 2 = i * 2 + 1 + 1 by omega, List.flatMap_cons, List.set_cons_succ, List.flatMap_cons, ← this]
      simp only [eP_apply, List.cons_append, List.nil_append, List.set_cons_succ]
theorem load_pair (d : TypeDesc) (hd : aggD d = true) (ps : List (Int × Int)) (i : Nat) (hi : i < ps.length) : loadC (some d) (some 2) (some (ps.flatMap eP, i * 2)) = some (.agg [I (nth ps i).1, I (nth ps i).2]) := by
  have hl : (ps.flatMap eP).length = ps.length * 2 := flatMap_len (f := eP) (sz := 2) ps
  rw [loadC_agg d 2 hd _ _ (by rw [hl]; omega)]
  congr 2
  clear hl
  induction ps generalizing i with
  | nil => simp at hi
  | cons p ps ih =>
    cases i with
    | zero => rfl
    | succ i =>
      have := ih i (by simpa using hi)
      rw [show (i + 1) * 2 = i * 2 + 1 + 1 by omega, List.flatMap_cons]
      simp only [eP_apply, List.cons_append, List.nil_append, List.drop_succ_cons]
      rw [this]; rfl
theorem stepL_len {n : Nat} {b v : List (Int × Int)} {m : Nat} : (stepL n b v m).length = if b.length < n then m else n := by
  unfold stepL; split <;> simp
theorem stepL_app {n : Nat} {b v : List (Int × Int)} {m : Nat} (h : b.length < n) : stepL n b v (m + 1) = stepL n b v m ++ [nth v m] := by
  unfold stepL; rw [if_pos h, if_pos h, rows_snoc]
theorem stepL_nth {n : Nat} {b v : List (Int × Int)} {m k : Nat} (h : ¬ b.length < n) (hk : k < n) : nth (stepL n b v m) k = if k < m ∧ lessP (nth b k) (nth v k) = true then nth v k else nth b k := by
  unfold stepL; rw [if_neg h, nth_map_range _ _ _ hk]
theorem stepL_set {n : Nat} {b v : List (Int × Int)} {m : Nat} (h : ¬ b.length < n) (hm : m < n) (hl : lessP (nth b m) (nth v m) = true) : (stepL n b v m).set m ((nth v m).1, (nth v m).2) = stepL n b v (m + 1) := by
  refine list_ext_nth (by rw [List.length_set, stepL_len, stepL_len, if_neg h, if_neg h]) fun k hk => ?_
  rw [List.length_set, stepL_len, if_neg h] at hk
  rw [nth_set _ _ _ _ (by rw [stepL_len, if_neg h]; exact hm), stepL_nth h hk, stepL_nth h hk]
  by_cases hkm : m = k
  · subst hkm; rw [if_pos rfl, if_pos ⟨by omega, hl⟩]
  · rw [if_neg hkm]
    have : (k < m) ↔ (k < m + 1) := by omega
    simp only [this]
theorem stepL_same {n : Nat} {b v : List (Int × Int)} {m : Nat} (h : ¬ b.length < n) (hl : lessP (nth b m) (nth v m) = false) : stepL n b v (m + 1) = stepL n b v m := by
  refine list_ext_nth (by rw [stepL_len, stepL_len, if_neg h, if_neg h]) fun k hk => ?_
  rw [stepL_len, if_neg h] at hk
  rw [stepL_nth h hk, stepL_nth h hk]
  by_cases hkm : k = m
  · subst hkm; rw [hl]; simp
  · have : (k < m) ↔ (k < m + 1) := by omega
    simp only [this]
theorem shr_rem (x i : Nat) : ((x >>> i : Nat) : Int).tmod 2 = if x.testBit i then 1 else 0 := by
  rw [Nat.testBit_eq_decide_div_mod_eq, Nat.shiftRight_eq_div_pow]
  generalize x / 2 ^ i = y
  rw [Int.tmod_eq_emod_of_nonneg (show (0 : Int) ≤ (y : Int) by omega)]
  by_cases h : y % 2 = 1
  · simp only [h, decide_true, if_true]; omega
  · simp only [h, decide_false, Bool.false_eq_true, if_false]; omega
def stopsL (n : Nat) (pay : List Int) (b : List (Int × Int)) (m : Nat) : List Int := filtL (fun i => decide ((nth b i).1 = nth pay i) && decide ((nth b i).2 = 1)) m

theorem export_own2 {α β : Type} {f : α → List AV} {sz : Nat} [RowEnc f sz] {g : β → List AV} {tz : Nat} [RowEnc g tz] (t u : TypeId) {v w : AV} {xs : List α} {ys : List β} (o : Go.Am.Own f sz h v xs) (q : Go.Am.Own g tz h w ys) (d : Dis v w) :
    ex2 (sealA h v) w = some (.tup [L f xs, L g ys]) := by
  obtain ⟨g1, r1, n1, b1⟩ := sealA_Own o
  have q1 : Go.Am.Own g tz g1 w ys := by
    rcases q with q | ⟨id, e, hi, hc⟩
    · exact .inl q
    · refine .inr ⟨id, e, by omega, ?_⟩
      rw [b1 id fun id' off n sz' e' => (d _ _ _ _ _ _ _ _ e' e).symm]; exact hc
  obtain ⟨g2, r2, _, _⟩ := sealA_Own q1
  rw [r1, ex2_some, r2, ex1_some]
theorem f37_con {nx : List (List Int)} {pay cost : List Int} (C : okC nx pay cost) :
    Con Try.prog cfg 37 [chA nx pay cost] (.tup [LP (bestL nx pay cost), LI (stopsL nx.length pay (bestL nx pay cost) nx.length)]) := by
  obtain ⟨n, hn⟩ : ∃ n, n = nx.length := ⟨_, rfl⟩
  have hn1 := C.n1
  have hn6 := C.n6
  have hlp := C.lp
  have ml : maxLen = 9223372036854775807 := by decide
  have hal : ∀ g : Hp, allocB g (some (chA nx pay cost)) = some (.ptr g.nx 0, g.alloc (.cells false false [LLI nx, LI pay, LI cost])) := fun g => allocB_agg _ rfl
  have hse : ∀ h : Hp, sealA h (chA nx pay cost) = some (chA nx pay cost, h) := fun h => sealA_agg _ (by simp only [AV.pureL, pure_L, Bool.and_true])
  have hN6 : 2 ^ n ≤ 64 := by have := Nat.pow_le_pow_right (n := 2) (by decide) (show n ≤ 6 by omega); omega
  have esh := shl_one (P := Try.prog) 3 n (by omega)
  obtain ⟨N, hN⟩ : ∃ N, N = 2 ^ n := ⟨_, rfl⟩
  rw [← hN] at esh hN6
  have hbe := bestR_eq C
  rw [← hn, ← hN] at hbe
  refine Con_intro Try.func37 rfl ok37 (Nat.le_of_ble_eq_true rfl) rfl ?_
  simp only [Try.f37, Option.getD_some, initSt1]
  simp (disch := first | (simp only [go_sem, gb0, eq_self]; done) | omega | (simp only [gl1, gl2]; omega)) only [go_sem, ↓reduceIte, Nat.reduceEqDiff, Nat.reduceAdd, Nat.reduceMul, Nat.reduceSub, Int.reduceToNat, Nat.reduceBEq, hal]
  refine WP_cut (fun st h => st 1 = .ptr 0 0 ∧ st 4 = I n ∧ 1 ≤ h.nx ∧ h.bl 0 = some (.cells false false [LLI nx, LI pay, LI cost]) ∧ ∃ v, st 5 = v ∧ OwnGe 1 eP 2 h v (bestL nx pay cost)) ?_ ?_
  · refine WP_for 6 N (fun m st h => st 1 = .ptr 0 0 ∧ st 4 = I n ∧ 1 ≤ h.nx ∧ h.bl 0 = some (.cells false false [LLI nx, LI pay, LI cost]) ∧ ∃ v, st 5 = v ∧ OwnGe 1 eP 2 h v (bestR nx pay cost m)) (by simp (disch := first | (simp only [go_sem, gb0, eq_self]; done) | omega | (simp only [gl1, gl2]; omega)) only [go_sem, ↓reduceIte, Nat.reduceEqDiff, Nat.reduceAdd, Nat.reduceMul, Nat.reduceSub, Int.reduceToNat, Nat.reduceBEq]) ⟨by simp (disch := first | (simp only [go_sem, gb0, eq_self]; done) | omega | (simp only [gl1, gl2]; omega)) only [go_sem, ↓reduceIte, Nat.reduceEqDiff, Nat.reduceAdd, Nat.reduceMul, Nat.reduceSub, Int.reduceToNat, Nat.reduceBEq], by simp (disch := first | (simp only [go_sem, gb0, eq_self]; done) | omega | (simp only [gl1, gl2]; omega)) only [go_sem, ↓reduceIte, Nat.reduceEqDiff, Nat.reduceAdd, Nat.reduceMul, Nat.reduceSub, Int.reduceToNat, Nat.reduceBEq, hn], by simp (disch := first | (simp only [go_sem, gb0, eq_self]; done) | omega | (simp only [gl1, gl2]; omega)) only [go_sem, ↓reduceIte, Nat.reduceEqDiff, Nat.reduceAdd, Nat.reduceMul, Nat.reduceSub, Int.reduceToNat, Nat.reduceBEq]; decide, by simp (disch := first | (simp only [go_sem, gb0, eq_self]; done) | omega | (simp only [gl1, gl2]; omega)) only [go_sem, ↓reduceIte, Nat.reduceEqDiff, Nat.reduceAdd, Nat.reduceMul, Nat.reduceSub, Int.reduceToNat, Nat.reduceBEq], .nil, by simp (disch := first | (simp only [go_sem, gb0, eq_self]; done) | omega | (simp only [gl1, gl2]; omega)) only [go_sem, ↓reduceIte, Nat.reduceEqDiff, Nat.reduceAdd, Nat.reduceMul, Nat.reduceSub, Int.reduceToNat, Nat.reduceBEq], .inl ⟨rfl, rfl⟩⟩ ?_
    rintro m st h hm s6 ⟨s1, s4, hnx, b0, v, s5, ov⟩
    by_cases hlt : m < N
    case neg =>
      have hme : m = N := by omega
      rw [hme, hbe] at ov
      simp (disch := first | (simp only [go_sem, gb0, eq_self]; done) | omega | (simp only [gl1, gl2]; omega)) only [go_sem, ↓reduceIte, Nat.reduceEqDiff, Nat.reduceAdd, Nat.reduceMul, Nat.reduceSub, Int.reduceToNat, Nat.reduceBEq, s1, s4, s5, s6, esh, hlt]
      exact ⟨hnx, b0, _, rfl, ov⟩
    have BI := bestR_inv C m
    simp (disch := first | (simp only [go_sem, gb0, eq_self]; done) | omega | (simp only [gl1, gl2]; omega)) only [go_sem, ↓reduceIte, Nat.reduceEqDiff, Nat.reduceAdd, Nat.reduceMul, Nat.reduceSub, Int.reduceToNat, Nat.reduceBEq, s1, s4, s5, s6, esh, hlt]
    -- the rule as a list
    obtain ⟨B, hB⟩ : ∃ B, B = h.nx := ⟨_, rfl⟩
    refine WP_cut (fun st g => st 1 = .ptr 0 0 ∧ st 4 = I n ∧ st 5 = v ∧ st 6 = I m ∧ B ≤ g.nx ∧ (∀ id, id < B → g.bl id = h.bl id) ∧ ∃ y, st 7 = y ∧ OwnGe B (e1 I) 1 g y (filtL (ruleB m) n)) ?_ ?_
    · refine WP_for 8 n (fun i st g => st 1 = .ptr 0 0 ∧ st 4 = I n ∧ st 5 = v ∧ st 6 = I m ∧ B ≤ g.nx ∧ (∀ id, id < B → g.bl id = h.bl id) ∧ ∃ y, st 7 = y ∧ OwnGe B (e1 I) 1 g y (filtL (ruleB m) i)) (by simp (disch := first | (simp only [go_sem, gb0, eq_self]; done) | omega | (simp only [gl1, gl2]; omega)) only [go_sem, ↓reduceIte, Nat.reduceEqDiff, Nat.reduceAdd, Nat.reduceMul, Nat.reduceSub, Int.reduceToNat, Nat.reduceBEq])
        ⟨by simp (disch := first | (simp only [go_sem, gb0, eq_self]; done) | omega | (simp only [gl1, gl2]; omega)) only [go_sem, ↓reduceIte, Nat.reduceEqDiff, Nat.reduceAdd, Nat.reduceMul, Nat.reduceSub, Int.reduceToNat, Nat.reduceBEq, s1], by simp (disch := first | (simp only [go_sem, gb0, eq_self]; done) | omega | (simp only [gl1, gl2]; omega)) only [go_sem, ↓reduceIte, Nat.reduceEqDiff, Nat.reduceAdd, Nat.reduceMul, Nat.reduceSub, Int.reduceToNat, Nat.reduceBEq, s4], by simp (disch := first | (simp only [go_sem, gb0, eq_self]; done) | omega | (simp only [gl1, gl2]; omega)) only [go_sem, ↓reduceIte, Nat.reduceEqDiff, Nat.reduceAdd, Nat.reduceMul, Nat.reduceSub, Int.reduceToNat, Nat.reduceBEq, s5], by simp (disch := first | (simp only [go_sem, gb0, eq_self]; done) | omega | (simp only [gl1, gl2]; omega)) only [go_sem, ↓reduceIte, Nat.reduceEqDiff, Nat.reduceAdd, Nat.reduceMul, Nat.reduceSub, Int.reduceToNat, Nat.reduceBEq, s6], by omega, fun _ _ => rfl, .nil, by simp (disch := first | (simp only [go_sem, gb0, eq_self]; done) | omega | (simp only [gl1, gl2]; omega)) only [go_sem, ↓reduceIte, Nat.reduceEqDiff, Nat.reduceAdd, Nat.reduceMul, Nat.reduceSub, Int.reduceToNat, Nat.reduceBEq], .inl ⟨rfl, rfl⟩⟩ ?_
      rintro i st g hi s8 ⟨s1, s4, s5, s6, hgn, hgo, y, s7, oy⟩
      by_cases hin : i < n
      case neg =>
        have hie : i = n := by omega
        subst hie
        simp (disch := first | (simp only [go_sem, gb0, eq_self]; done) | omega | (simp only [gl1, gl2]; omega)) only [go_sem, ↓reduceIte, Nat.reduceEqDiff, Nat.reduceAdd, Nat.reduceMul, Nat.reduceSub, Int.reduceToNat, Nat.reduceBEq, s1, s4, s5, s6, s7, s8, hin]
        exact ⟨hgn, hgo, _, rfl, oy⟩
      have hsh := shr_nat (P := Try.prog) 3 m i (by omega)
      have hsl : m >>> i < 9223372036854775808 := by rw [Nat.shiftRight_eq_div_pow]; exact Nat.lt_of_le_of_lt (Nat.div_le_self _ _) (by omega)
      have hrm := shr_rem m i
      have hfs := filtL_succ (ruleB m) i
      have hfl := filtL_len (ruleB m) i
      have n20 : ¬ (2 : Int) = 0 := by decide
      cases hb : m.testBit i with
      | false =>
        have hrb : ruleB m i = false := hb
        rw [hb] at hrm
        rw [hrb] at hfs
        have hrm' : ((m >>> i : Nat) : Int).tmod 2 = 0 := hrm
        have hfs' : filtL (ruleB m) (i + 1) = filtL (ruleB m) i := hfs
        have e01 : ¬ (0 : Int) = 1 := by decide
        simp (disch := first | (simp only [go_sem, gb0, eq_self]; done) | omega | (simp only [gl1, gl2]; omega)) only [go_sem, ↓reduceIte, Nat.reduceEqDiff, Nat.reduceAdd, Nat.reduceMul, Nat.reduceSub, Int.reduceToNat, Nat.reduceBEq, s1, s4, s5, s6, s7, s8, hin, hsh, hrm', n20, e01]
        rw [ForK_normal]
        exact ⟨hin, by simp (disch := first | (simp only [go_sem, gb0, eq_self]; done) | omega | (simp only [gl1, gl2]; omega)) only [go_sem, ↓reduceIte, Nat.reduceEqDiff, Nat.reduceAdd, Nat.reduceMul, Nat.reduceSub, Int.reduceToNat, Nat.reduceBEq, s8], by simp (disch := first | (simp only [go_sem, gb0, eq_self]; done) | omega | (simp only [gl1, gl2]; omega)) only [go_sem, ↓reduceIte, Nat.reduceEqDiff, Nat.reduceAdd, Nat.reduceMul, Nat.reduceSub, Int.reduceToNat, Nat.reduceBEq, s1], by simp (disch := first | (simp only [go_sem, gb0, eq_self]; done) | omega | (simp only [gl1, gl2]; omega)) only [go_sem, ↓reduceIte, Nat.reduceEqDiff, Nat.reduceAdd, Nat.reduceMul, Nat.reduceSub, Int.reduceToNat, Nat.reduceBEq, s4], by simp (disch := first | (simp only [go_sem, gb0, eq_self]; done) | omega | (simp only [gl1, gl2]; omega)) only [go_sem, ↓reduceIte, Nat.reduceEqDiff, Nat.reduceAdd, Nat.reduceMul, Nat.reduceSub, Int.reduceToNat, Nat.reduceBEq, s5], by simp (disch := first | (simp only [go_sem, gb0, eq_self]; done) | omega | (simp only [gl1, gl2]; omega)) only [go_sem, ↓reduceIte, Nat.reduceEqDiff, Nat.reduceAdd, Nat.reduceMul, Nat.reduceSub, Int.reduceToNat, Nat.reduceBEq, s6], hgn, hgo, y, by simp (disch := first | (simp only [go_sem, gb0, eq_self]; done) | omega | (simp only [gl1, gl2]; omega)) only [go_sem, ↓reduceIte, Nat.reduceEqDiff, Nat.reduceAdd, Nat.reduceMul, Nat.reduceSub, Int.reduceToNat, Nat.reduceBEq, s7], by rw [hfs']; exact oy⟩
      | true =>
        have hrb : ruleB m i = true := hb
        rw [hb] at hrm
        rw [hrb] at hfs
        have hrm' : ((m >>> i : Nat) : Int).tmod 2 = 1 := hrm
        have hfs' : filtL (ruleB m) (i + 1) = filtL (ruleB m) i ++ [(i : Int)] := hfs
        have hbs := fun h => bsB_one (P := Try.prog) 3 (I i) (I i) (I 0) h isz3 izero3 rfl rfl rfl rfl rfl rfl rfl
        have happ := app_one (P := Try.prog) oy.own 3 8 (I 0) (i : Int) isz3 ibytes3 izero3 rfl (by omega) (by omega)
        have ln : B ≤ (appH g y ((filtL (ruleB m) i ++ [(i : Int)]).flatMap (e1 I))).nx := by rw [appH_nx]; omega
        have lo : OwnGe B (e1 I) 1 (appH g y ((filtL (ruleB m) i ++ [(i : Int)]).flatMap (e1 I))) (appV g (filtL (ruleB m) i ++ [(i : Int)]).length 1) (filtL (ruleB m) (i + 1)) := by
          rw [hfs']
          exact OwnGe.app _ hgn _
        have ll : ∀ id, id < B → (appH g y ((filtL (ruleB m) i ++ [(i : Int)]).flatMap (e1 I))).bl id = h.bl id := fun id hid => by
          rw [oy.low hid (by omega)]; exact hgo id hid
        generalize appH g y ((filtL (ruleB m) i ++ [(i : Int)]).flatMap (e1 I)) = G at *
        generalize appV g (filtL (ruleB m) i ++ [(i : Int)]).length 1 = u at *
        simp (disch := first | (simp only [go_sem, gb0, eq_self]; done) | omega | (simp only [gl1, gl2]; omega)) only [go_sem, ↓reduceIte, Nat.reduceEqDiff, Nat.reduceAdd, Nat.reduceMul, Nat.reduceSub, Int.reduceToNat, Nat.reduceBEq, s1, s4, s5, s6, s7, s8, hin, hsh, hrm', n20, eq_self, decide_true, hbs, happ]
        rw [ForK_normal]
        exact ⟨hin, by simp (disch := first | (simp only [go_sem, gb0, eq_self]; done) | omega | (simp only [gl1, gl2]; omega)) only [go_sem, ↓reduceIte, Nat.reduceEqDiff, Nat.reduceAdd, Nat.reduceMul, Nat.reduceSub, Int.reduceToNat, Nat.reduceBEq, s8], by simp (disch := first | (simp only [go_sem, gb0, eq_self]; done) | omega | (simp only [gl1, gl2]; omega)) only [go_sem, ↓reduceIte, Nat.reduceEqDiff, Nat.reduceAdd, Nat.reduceMul, Nat.reduceSub, Int.reduceToNat, Nat.reduceBEq, s1], by simp (disch := first | (simp only [go_sem, gb0, eq_self]; done) | omega | (simp only [gl1, gl2]; omega)) only [go_sem, ↓reduceIte, Nat.reduceEqDiff, Nat.reduceAdd, Nat.reduceMul, Nat.reduceSub, Int.reduceToNat, Nat.reduceBEq, s4], by simp (disch := first | (simp only [go_sem, gb0, eq_self]; done) | omega | (simp only [gl1, gl2]; omega)) only [go_sem, ↓reduceIte, Nat.reduceEqDiff, Nat.reduceAdd, Nat.reduceMul, Nat.reduceSub, Int.reduceToNat, Nat.reduceBEq, s5], by simp (disch := first | (simp only [go_sem, gb0, eq_self]; done) | omega | (simp only [gl1, gl2]; omega)) only [go_sem, ↓reduceIte, Nat.reduceEqDiff, Nat.reduceAdd, Nat.reduceMul, Nat.reduceSub, Int.reduceToNat, Nat.reduceBEq, s6], ln, ll, _, by simp (disch := first | (simp only [go_sem, gb0, eq_self]; done) | omega | (simp only [gl1, gl2]; omega)) only [go_sem, ↓reduceIte, Nat.reduceEqDiff, Nat.reduceAdd, Nat.reduceMul, Nat.reduceSub, Int.reduceToNat, Nat.reduceBEq], lo⟩
    rintro st g ⟨s1, s4, s5, s6, hgn, hgo, y, s7, oy⟩
    obtain ⟨l, hl⟩ : ∃ l, l = filtL (ruleB m) n := ⟨_, rfl⟩
    have hll : l.length ≤ maxLen := by have := filtL_len (ruleB m) n; rw [hl]; omega
    have hxr : ∀ i, i < nx.length → ruleB (xOf nx.length l) i = ruleB m i := fun i hi => by rw [xOf_bit l hi, hl, filtL_has _ (by omega)]
    have hsb : sndB nx.length (wF nx) (xOf nx.length l) = sndB nx.length (wF nx) m := sndB_congr hxr
    have hvl : valL nx pay cost (xOf nx.length l) = valL nx pay cost m := valL_congr hxr
    rw [← hl] at oy
    obtain ⟨g2, hsy, hg2n, hg2o⟩ := sealA_Own oy.own
    have g0 : g.bl 0 = some (.cells false false [LLI nx, LI pay, LI cost]) := (hgo 0 (by omega)).trans b0
    have k32 := fun h h' K => ConW_num (h := h) (h' := h') (K := K) (f32_con C l hll) rfl
    rw [hsb] at k32
    cases hs : sndB nx.length (wF nx) m with
    | false =>
      have hbr : bestR nx pay cost (m + 1) = bestR nx pay cost m := by rw [bestR, hs]; rfl
      simp (disch := first | (simp only [go_sem, gb0, eq_self]; done) | omega | (simp only [gl1, gl2]; omega)) only [go_sem, ↓reduceIte, Nat.reduceEqDiff, Nat.reduceAdd, Nat.reduceMul, Nat.reduceSub, Int.reduceToNat, Nat.reduceBEq, s1, s4, s5, s6, s7, g0, hse, hsy, k32, hs]
      rw [ForK_normal]
      exact ⟨hlt, by simp (disch := first | (simp only [go_sem, gb0, eq_self]; done) | omega | (simp only [gl1, gl2]; omega)) only [go_sem, ↓reduceIte, Nat.reduceEqDiff, Nat.reduceAdd, Nat.reduceMul, Nat.reduceSub, Int.reduceToNat, Nat.reduceBEq, s6], by simp (disch := first | (simp only [go_sem, gb0, eq_self]; done) | omega | (simp only [gl1, gl2]; omega)) only [go_sem, ↓reduceIte, Nat.reduceEqDiff, Nat.reduceAdd, Nat.reduceMul, Nat.reduceSub, Int.reduceToNat, Nat.reduceBEq, s1], by simp (disch := first | (simp only [go_sem, gb0, eq_self]; done) | omega | (simp only [gl1, gl2]; omega)) only [go_sem, ↓reduceIte, Nat.reduceEqDiff, Nat.reduceAdd, Nat.reduceMul, Nat.reduceSub, Int.reduceToNat, Nat.reduceBEq, s4], by omega, g0, v, by simp (disch := first | (simp only [go_sem, gb0, eq_self]; done) | omega | (simp only [gl1, gl2]; omega)) only [go_sem, ↓reduceIte, Nat.reduceEqDiff, Nat.reduceAdd, Nat.reduceMul, Nat.reduceSub, Int.reduceToNat, Nat.reduceBEq, s5], by rw [hbr]; exact ov.mono (by omega) fun id _ h3 => hgo id (by omega)⟩
    | true =>
      have hsp := sndB_iff.1 hs
      have hspx : sndP nx.length (wF nx) (ruleB (xOf nx.length l)) := sndB_iff.1 (by rw [hsb]; exact hs)
      have hbr : bestR nx pay cost (m + 1) = stepL n (bestR nx pay cost m) (valL nx pay cost m) n := by rw [bestR, hs, hn]; rfl
      have k34 := fun h h' K => ConW_any (h := h) (h' := h') (K := K) (f34_con C l hll hspx) rfl
      rw [hvl] at k34
      have hi34 : ∀ (h : Hp) (l : List (Int × Int)), importR h (LP l) = (LP l, h) := fun _ _ => rfl
      have hvlen := valL_len nx pay cost m
      have hvd := fun i hi => val_den C hsp (i := i) hi
      have hyid : ∀ id, id < B → ∀ id' off k sz', y = .sl id' off k sz' → id ≠ id' := fun id hid id' off k sz' e => by
        rcases oy with ⟨e2, _⟩ | ⟨w, h1, e2, _⟩
        · rw [e2] at e; cases e
        · rw [e2] at e; cases e; omega
      have g20 : g2.bl 0 = some (.cells false false [LLI nx, LI pay, LI cost]) := by rw [hg2o 0 (hyid 0 (by omega))]; exact g0
      have ov2 : OwnGe 1 eP 2 g2 v (bestR nx pay cost m) := ov.mono (by omega) fun id _ h3 => by
        rw [hg2o id (hyid id (by omega))]; exact hgo id (by omega)
      have hge : ∀ i, i < (bestR nx pay cost m).length → (1 ≤ (nth (bestR nx pay cost m) i).2 ∧ (nth (bestR nx pay cost m) i).2 ≤ 262144) ∧ (-3188646000 ≤ (nth (bestR nx pay cost m) i).1 ∧ (nth (bestR nx pay cost m) i).1 ≤ 3188646000) := fun i hi => by
        obtain ⟨x, _, h1, h2⟩ := BI.ex i hi
        rw [h2]
        refine val_den C h1 ?_
        rcases BI.len with e | e
        · rw [e] at hi; simp at hi
        · omega
      have hbl := BI.len
      have hg21 : 1 ≤ g2.nx := by omega
      generalize bestR nx pay cost m = b at *
      generalize valL nx pay cost m = vl at *
      simp (disch := first | (simp only [go_sem, gb0, eq_self]; done) | omega | (simp only [gl1, gl2]; omega)) only [go_sem, ↓reduceIte, Nat.reduceEqDiff, Nat.reduceAdd, Nat.reduceMul, Nat.reduceSub, Int.reduceToNat, Nat.reduceBEq, s1, s4, s5, s6, s7, g0, hse, hsy, k32, hs, k34, hi34, g20]
      refine WP_cut (fun st g => st 1 = .ptr 0 0 ∧ st 4 = I n ∧ st 6 = I m ∧ 1 ≤ g.nx ∧ g.bl 0 = some (.cells false false [LLI nx, LI pay, LI cost]) ∧ ∃ v, st 5 = v ∧ OwnGe 1 eP 2 g v (stepL n b vl n)) ?_ ?_
      · refine WP_for 10 n (fun i st g => st 1 = .ptr 0 0 ∧ st 4 = I n ∧ st 6 = I m ∧ st 9 = LP vl ∧ 1 ≤ g.nx ∧ g.bl 0 = some (.cells false false [LLI nx, LI pay, LI cost]) ∧ ∃ v, st 5 = v ∧ OwnGe 1 eP 2 g v (if i = 0 then b else stepL n b vl i)) (by simp (disch := first | (simp only [go_sem, gb0, eq_self]; done) | omega | (simp only [gl1, gl2]; omega)) only [go_sem, ↓reduceIte, Nat.reduceEqDiff, Nat.reduceAdd, Nat.reduceMul, Nat.reduceSub, Int.reduceToNat, Nat.reduceBEq])
          ⟨by simp (disch := first | (simp only [go_sem, gb0, eq_self]; done) | omega | (simp only [gl1, gl2]; omega)) only [go_sem, ↓reduceIte, Nat.reduceEqDiff, Nat.reduceAdd, Nat.reduceMul, Nat.reduceSub, Int.reduceToNat, Nat.reduceBEq, s1], by simp (disch := first | (simp only [go_sem, gb0, eq_self]; done) | omega | (simp only [gl1, gl2]; omega)) only [go_sem, ↓reduceIte, Nat.reduceEqDiff, Nat.reduceAdd, Nat.reduceMul, Nat.reduceSub, Int.reduceToNat, Nat.reduceBEq, s4], by simp (disch := first | (simp only [go_sem, gb0, eq_self]; done) | omega | (simp only [gl1, gl2]; omega)) only [go_sem, ↓reduceIte, Nat.reduceEqDiff, Nat.reduceAdd, Nat.reduceMul, Nat.reduceSub, Int.reduceToNat, Nat.reduceBEq, s6], by simp (disch := first | (simp only [go_sem, gb0, eq_self]; done) | omega | (simp only [gl1, gl2]; omega)) only [go_sem, ↓reduceIte, Nat.reduceEqDiff, Nat.reduceAdd, Nat.reduceMul, Nat.reduceSub, Int.reduceToNat, Nat.reduceBEq], hg21, g20, v, by simp (disch := first | (simp only [go_sem, gb0, eq_self]; done) | omega | (simp only [gl1, gl2]; omega)) only [go_sem, ↓reduceIte, Nat.reduceEqDiff, Nat.reduceAdd, Nat.reduceMul, Nat.reduceSub, Int.reduceToNat, Nat.reduceBEq, s5], by rw [if_pos rfl]; exact ov2⟩ ?_
        rintro i st g hi s10 ⟨s1, s4, s6, s9, hgn, g0, v, s5, ov⟩
        by_cases hin : i < n
        case neg =>
          have hie : i = n := by omega
          subst hie
          rw [if_neg (by omega)] at ov
          simp (disch := first | (simp only [go_sem, gb0, eq_self]; done) | omega | (simp only [gl1, gl2]; omega)) only [go_sem, ↓reduceIte, Nat.reduceEqDiff, Nat.reduceAdd, Nat.reduceMul, Nat.reduceSub, Int.reduceToNat, Nat.reduceBEq, s1, s4, s5, s6, s9, s10, hin]
          exact ⟨hgn, g0, _, rfl, ov⟩
        have hiv : i < vl.length := by omega
        have hiv' : (i : Int) < vl.length := by omega
        by_cases hlb : b.length < n
        · have hb0 : b = [] := by
            rcases hbl with e | e
            · exact e
            · omega
          have hcur : (if i = 0 then b else stepL n b vl i) = stepL n b vl i := by
            split
            · rename_i e; subst e; rw [hb0]; unfold stepL; rw [if_pos (by rw [List.length_nil]; omega)]; rfl
            · rfl
          rw [hcur] at ov
          have hsl := stepL_len (n := n) (b := b) (v := vl) (m := i)
          rw [if_pos hlb] at hsl
          have hlen := ov.own.lenB 37 g none
          rw [hsl] at hlen
          have hsa := stepL_app (n := n) (b := b) (v := vl) (m := i) hlb
          have hbs := fun h => bsB_pair (P := Try.prog) (h := h) 37 (nth vl i).1 (nth vl i).2 0 0 isz37 izero37
          have happ := app_pair (P := Try.prog) ov.own 37 16 (.agg [I 0, I 0]) (nth vl i).1 (nth vl i).2 isz37 ibytes37 izero37 rfl (by omega) (by omega)
          have ln : 1 ≤ (appH g v ((stepL n b vl i ++ [((nth vl i).1, (nth vl i).2)]).flatMap eP)).nx := by rw [appH_nx]; omega
          have lo : OwnGe 1 eP 2 (appH g v ((stepL n b vl i ++ [((nth vl i).1, (nth vl i).2)]).flatMap eP)) (appV g (stepL n b vl i ++ [((nth vl i).1, (nth vl i).2)]).length 2) (if i + 1 = 0 then b else stepL n b vl (i + 1)) := by
            rw [if_neg (by omega), hsa]
            exact OwnGe.app _ hgn _
          have ll : (appH g v ((stepL n b vl i ++ [((nth vl i).1, (nth vl i).2)]).flatMap eP)).bl 0 = some (.cells false false [LLI nx, LI pay, LI cost]) := by
            rw [ov.low (by decide) (by omega)]; exact g0
          generalize appH g v ((stepL n b vl i ++ [((nth vl i).1, (nth vl i).2)]).flatMap eP) = G at *
          generalize appV g (stepL n b vl i ++ [((nth vl i).1, (nth vl i).2)]).length 2 = u at *
          simp (disch := first | (simp only [go_sem, gb0, eq_self]; done) | omega | (simp only [gl1, gl2]; omega)) only [go_sem, ↓reduceIte, Nat.reduceEqDiff, Nat.reduceAdd, Nat.reduceMul, Nat.reduceSub, Int.reduceToNat, Nat.reduceBEq, s1, s4, s5, s6, s9, s10, hin, hlen, hiv, hiv', hbs, happ]
          rw [ForK_normal]
          exact ⟨hin, by simp (disch := first | (simp only [go_sem, gb0, eq_self]; done) | omega | (simp only [gl1, gl2]; omega)) only [go_sem, ↓reduceIte, Nat.reduceEqDiff, Nat.reduceAdd, Nat.reduceMul, Nat.reduceSub, Int.reduceToNat, Nat.reduceBEq, s10], by simp (disch := first | (simp only [go_sem, gb0, eq_self]; done) | omega | (simp only [gl1, gl2]; omega)) only [go_sem, ↓reduceIte, Nat.reduceEqDiff, Nat.reduceAdd, Nat.reduceMul, Nat.reduceSub, Int.reduceToNat, Nat.reduceBEq, s1], by simp (disch := first | (simp only [go_sem, gb0, eq_self]; done) | omega | (simp only [gl1, gl2]; omega)) only [go_sem, ↓reduceIte, Nat.reduceEqDiff, Nat.reduceAdd, Nat.reduceMul, Nat.reduceSub, Int.reduceToNat, Nat.reduceBEq, s4], by simp (disch := first | (simp only [go_sem, gb0, eq_self]; done) | omega | (simp only [gl1, gl2]; omega)) only [go_sem, ↓reduceIte, Nat.reduceEqDiff, Nat.reduceAdd, Nat.reduceMul, Nat.reduceSub, Int.reduceToNat, Nat.reduceBEq, s6], by simp (disch := first | (simp only [go_sem, gb0, eq_self]; done) | omega | (simp only [gl1, gl2]; omega)) only [go_sem, ↓reduceIte, Nat.reduceEqDiff, Nat.reduceAdd, Nat.reduceMul, Nat.reduceSub, Int.reduceToNat, Nat.reduceBEq, s9], ln, ll, _, by simp (disch := first | (simp only [go_sem, gb0, eq_self]; done) | omega | (simp only [gl1, gl2]; omega)) only [go_sem, ↓reduceIte, Nat.reduceEqDiff, Nat.reduceAdd, Nat.reduceMul, Nat.reduceSub, Int.reduceToNat, Nat.reduceBEq], lo⟩
        · have hb0 : b.length = n := by
            rcases hbl with e | e
            · exact absurd (by rw [e, List.length_nil]; omega) hlb
            · omega
          have hcur : (if i = 0 then b else stepL n b vl i) = stepL n b vl i := by
            split
            · rename_i e; subst e
              refine list_ext_nth (by rw [stepL_len, if_neg hlb, hb0]) fun k hk => ?_
              rw [stepL_nth hlb (by omega)]; simp
            · rfl
          rw [hcur] at ov
          have hsl := stepL_len (n := n) (b := b) (v := vl) (m := i)
          rw [if_neg hlb] at hsl
          obtain ⟨id, hid1, rfl, hidn, hbid⟩ : ∃ id, 1 ≤ id ∧ v = .sl id 0 n 2 ∧ id < g.nx ∧ g.bl id = some (.cells false true ((stepL n b vl i).flatMap eP)) := by
            rcases ov with ⟨_, e⟩ | ⟨id, h1, h2, h3, h4⟩
            · have := congrArg List.length e; rw [hsl, List.length_nil] at this; omega
            · exact ⟨id, h1, by rw [h2, hsl], h3, h4⟩
          have hlen : lenB (some (.slice 37)) (.sl id 0 n 2) g none = some (I n) := by have := ov.own.lenB 37 g none; rwa [hsl] at this
          have hcurn := stepL_nth (n := n) (b := b) (v := vl) (m := i) hlb hin
          rw [if_neg (fun h => by omega)] at hcurn
          have hbd := hge i (by omega)
          have hvdi := hvd i (by omega)
          have hld := load_pair (.struct #[{ name := "Num", type := 3, offset := 0, embedded := false, tag := "", pkgPath := "", byteOffset := 0 }, { name := "Den", type := 3, offset := 1, embedded := false, tag := "", pkgPath := "", byteOffset := 8 }]) rfl (stepL n b vl i) i (by rw [hsl]; exact hin)
          rw [hcurn] at hld
          have hm1 := mul_bd (a := (nth b i).1) (b := (nth vl i).2) (A := 3188646000) (B := 262144) (by omega) (by omega)
          have hm2 := mul_bd (a := (nth vl i).1) (b := (nth b i).2) (A := 3188646000) (B := 262144) (by omega) (by omega)
          have k20 := fun h h' K => ConW_num (h := h) (h' := h') (K := K) (f20_con (nth b i) (nth vl i) (by simp only [big]; omega) (by simp only [big]; omega)) rfl
          have hin' : (i : Int) < n := by omega
          have hnn : ¬ (n : Int) < n := by omega
          have hidn0 : ¬ 0 = id := by omega
          cases hls : lessP (nth b i) (nth vl i) with
          | false =>
            have hsm := stepL_same (n := n) (b := b) (v := vl) (m := i) hlb hls
            simp (disch := first | (simp only [go_sem, gb0, eq_self]; done) | omega | (simp only [gl1, gl2]; omega)) only [go_sem, ↓reduceIte, Nat.reduceEqDiff, Nat.reduceAdd, Nat.reduceMul, Nat.reduceSub, Int.reduceToNat, Nat.reduceBEq, s1, s4, s5, s6, s9, s10, hin, hin', hlen, hnn, hiv, hiv', hbid, hidn, hld, k20, hls]
            rw [ForK_normal]
            refine ⟨hin, by simp (disch := first | (simp only [go_sem, gb0, eq_self]; done) | omega | (simp only [gl1, gl2]; omega)) only [go_sem, ↓reduceIte, Nat.reduceEqDiff, Nat.reduceAdd, Nat.reduceMul, Nat.reduceSub, Int.reduceToNat, Nat.reduceBEq, s10], by simp (disch := first | (simp only [go_sem, gb0, eq_self]; done) | omega | (simp only [gl1, gl2]; omega)) only [go_sem, ↓reduceIte, Nat.reduceEqDiff, Nat.reduceAdd, Nat.reduceMul, Nat.reduceSub, Int.reduceToNat, Nat.reduceBEq, s1], by simp (disch := first | (simp only [go_sem, gb0, eq_self]; done) | omega | (simp only [gl1, gl2]; omega)) only [go_sem, ↓reduceIte, Nat.reduceEqDiff, Nat.reduceAdd, Nat.reduceMul, Nat.reduceSub, Int.reduceToNat, Nat.reduceBEq, s4], by simp (disch := first | (simp only [go_sem, gb0, eq_self]; done) | omega | (simp only [gl1, gl2]; omega)) only [go_sem, ↓reduceIte, Nat.reduceEqDiff, Nat.reduceAdd, Nat.reduceMul, Nat.reduceSub, Int.reduceToNat, Nat.reduceBEq, s6], by simp (disch := first | (simp only [go_sem, gb0, eq_self]; done) | omega | (simp only [gl1, gl2]; omega)) only [go_sem, ↓reduceIte, Nat.reduceEqDiff, Nat.reduceAdd, Nat.reduceMul, Nat.reduceSub, Int.reduceToNat, Nat.reduceBEq, s9], hgn, g0, _, by simp (disch := first | (simp only [go_sem, gb0, eq_self]; done) | omega | (simp only [gl1, gl2]; omega)) only [go_sem, ↓reduceIte, Nat.reduceEqDiff, Nat.reduceAdd, Nat.reduceMul, Nat.reduceSub, Int.reduceToNat, Nat.reduceBEq, s5]; rfl, ?_⟩
            rw [if_neg (by omega), hsm]; exact ov
          | true =>
            have hst := stepL_set (n := n) (b := b) (v := vl) (m := i) hlb hin hls
            have hsto := store_pair (h := g) id i true (stepL n b vl i) (nth vl i).1 (nth vl i).2 (by rw [hsl]; exact hin)
            rw [hst] at hsto
            simp (disch := first | (simp only [go_sem, gb0, eq_self]; done) | omega | (simp only [gl1, gl2]; omega)) only [go_sem, ↓reduceIte, Nat.reduceEqDiff, Nat.reduceAdd, Nat.reduceMul, Nat.reduceSub, Int.reduceToNat, Nat.reduceBEq, s1, s4, s5, s6, s9, s10, hin, hin', hlen, hnn, hiv, hiv', hbid, hidn, hld, k20, hls, hsto]
            rw [ForK_normal]
            refine ⟨hin, by simp (disch := first | (simp only [go_sem, gb0, eq_self]; done) | omega | (simp only [gl1, gl2]; omega)) only [go_sem, ↓reduceIte, Nat.reduceEqDiff, Nat.reduceAdd, Nat.reduceMul, Nat.reduceSub, Int.reduceToNat, Nat.reduceBEq, s10], by simp (disch := first | (simp only [go_sem, gb0, eq_self]; done) | omega | (simp only [gl1, gl2]; omega)) only [go_sem, ↓reduceIte, Nat.reduceEqDiff, Nat.reduceAdd, Nat.reduceMul, Nat.reduceSub, Int.reduceToNat, Nat.reduceBEq, s1], by simp (disch := first | (simp only [go_sem, gb0, eq_self]; done) | omega | (simp only [gl1, gl2]; omega)) only [go_sem, ↓reduceIte, Nat.reduceEqDiff, Nat.reduceAdd, Nat.reduceMul, Nat.reduceSub, Int.reduceToNat, Nat.reduceBEq, s4], by simp (disch := first | (simp only [go_sem, gb0, eq_self]; done) | omega | (simp only [gl1, gl2]; omega)) only [go_sem, ↓reduceIte, Nat.reduceEqDiff, Nat.reduceAdd, Nat.reduceMul, Nat.reduceSub, Int.reduceToNat, Nat.reduceBEq, s6], by simp (disch := first | (simp only [go_sem, gb0, eq_self]; done) | omega | (simp only [gl1, gl2]; omega)) only [go_sem, ↓reduceIte, Nat.reduceEqDiff, Nat.reduceAdd, Nat.reduceMul, Nat.reduceSub, Int.reduceToNat, Nat.reduceBEq, s9], hgn, by simp (disch := first | (simp only [go_sem, gb0, eq_self]; done) | omega | (simp only [gl1, gl2]; omega)) only [go_sem, ↓reduceIte, Nat.reduceEqDiff, Nat.reduceAdd, Nat.reduceMul, Nat.reduceSub, Int.reduceToNat, Nat.reduceBEq, g0, hidn0], _, by simp (disch := first | (simp only [go_sem, gb0, eq_self]; done) | omega | (simp only [gl1, gl2]; omega)) only [go_sem, ↓reduceIte, Nat.reduceEqDiff, Nat.reduceAdd, Nat.reduceMul, Nat.reduceSub, Int.reduceToNat, Nat.reduceBEq, s5]; rfl, ?_⟩
            rw [if_neg (by omega)]
            refine .inr ⟨id, hid1, by rw [stepL_len, if_neg hlb], hidn, by simp (disch := first | (simp only [go_sem, gb0, eq_self]; done) | omega | (simp only [gl1, gl2]; omega)) only [go_sem, ↓reduceIte, Nat.reduceEqDiff, Nat.reduceAdd, Nat.reduceMul, Nat.reduceSub, Int.reduceToNat, Nat.reduceBEq]⟩
      · rintro st g ⟨s1, s4, s6, hgn, g0, v, s5, ov⟩
        simp (disch := first | (simp only [go_sem, gb0, eq_self]; done) | omega | (simp only [gl1, gl2]; omega)) only [go_sem, ↓reduceIte, Nat.reduceEqDiff, Nat.reduceAdd, Nat.reduceMul, Nat.reduceSub, Int.reduceToNat, Nat.reduceBEq, s1, s4, s5, s6]
        rw [ForK_normal]
        exact ⟨hlt, by simp (disch := first | (simp only [go_sem, gb0, eq_self]; done) | omega | (simp only [gl1, gl2]; omega)) only [go_sem, ↓reduceIte, Nat.reduceEqDiff, Nat.reduceAdd, Nat.reduceMul, Nat.reduceSub, Int.reduceToNat, Nat.reduceBEq, s6], by simp (disch := first | (simp only [go_sem, gb0, eq_self]; done) | omega | (simp only [gl1, gl2]; omega)) only [go_sem, ↓reduceIte, Nat.reduceEqDiff, Nat.reduceAdd, Nat.reduceMul, Nat.reduceSub, Int.reduceToNat, Nat.reduceBEq, s1], by simp (disch := first | (simp only [go_sem, gb0, eq_self]; done) | omega | (simp only [gl1, gl2]; omega)) only [go_sem, ↓reduceIte, Nat.reduceEqDiff, Nat.reduceAdd, Nat.reduceMul, Nat.reduceSub, Int.reduceToNat, Nat.reduceBEq, s4], hgn, g0, v, by simp (disch := first | (simp only [go_sem, gb0, eq_self]; done) | omega | (simp only [gl1, gl2]; omega)) only [go_sem, ↓reduceIte, Nat.reduceEqDiff, Nat.reduceAdd, Nat.reduceMul, Nat.reduceSub, Int.reduceToNat, Nat.reduceBEq, s5], by rw [hbr]; exact ov⟩
  · rintro st h ⟨s1, s4, hnx, b0, v, s5, ov⟩
    obtain ⟨b, hb⟩ : ∃ b, b = bestL nx pay cost := ⟨_, rfl⟩
    have hbl : b.length = n := by rw [hb, hn]; exact bestL_len C
    rw [← hb] at ov ⊢
    obtain ⟨id, hid1, rfl, hidn, hbid⟩ : ∃ id, 1 ≤ id ∧ v = .sl id 0 n 2 ∧ id < h.nx ∧ h.bl id = some (.cells false true (b.flatMap eP)) := by
      rcases ov with ⟨_, e⟩ | ⟨id, h1, h2, h3, h4⟩
      · have := congrArg List.length e; rw [hbl, List.length_nil] at this; omega
      · exact ⟨id, h1, by rw [h2, hbl], h3, h4⟩
    obtain ⟨B, hB⟩ : ∃ B, B = h.nx := ⟨_, rfl⟩
    rw [← hn]
    simp (disch := first | (simp only [go_sem, gb0, eq_self]; done) | omega | (simp only [gl1, gl2]; omega)) only [go_sem, ↓reduceIte, Nat.reduceEqDiff, Nat.reduceAdd, Nat.reduceMul, Nat.reduceSub, Int.reduceToNat, Nat.reduceBEq, s1, s4, s5]
    refine WP_cut (fun st g => st 5 = .sl id 0 n 2 ∧ B ≤ g.nx ∧ g.bl id = some (.cells false true (b.flatMap eP)) ∧ ∃ y, st 11 = y ∧ OwnGe B (e1 I) 1 g y (stopsL n pay b n)) ?_ ?_
    · refine WP_for 12 n (fun i st g => st 1 = .ptr 0 0 ∧ st 4 = I n ∧ st 5 = .sl id 0 n 2 ∧ B ≤ g.nx ∧ g.bl 0 = some (.cells false false [LLI nx, LI pay, LI cost]) ∧ g.bl id = some (.cells false true (b.flatMap eP)) ∧ ∃ y, st 11 = y ∧ OwnGe B (e1 I) 1 g y (stopsL n pay b i)) (by simp (disch := first | (simp only [go_sem, gb0, eq_self]; done) | omega | (simp only [gl1, gl2]; omega)) only [go_sem, ↓reduceIte, Nat.reduceEqDiff, Nat.reduceAdd, Nat.reduceMul, Nat.reduceSub, Int.reduceToNat, Nat.reduceBEq])
        ⟨by simp (disch := first | (simp only [go_sem, gb0, eq_self]; done) | omega | (simp only [gl1, gl2]; omega)) only [go_sem, ↓reduceIte, Nat.reduceEqDiff, Nat.reduceAdd, Nat.reduceMul, Nat.reduceSub, Int.reduceToNat, Nat.reduceBEq, s1], by simp (disch := first | (simp only [go_sem, gb0, eq_self]; done) | omega | (simp only [gl1, gl2]; omega)) only [go_sem, ↓reduceIte, Nat.reduceEqDiff, Nat.reduceAdd, Nat.reduceMul, Nat.reduceSub, Int.reduceToNat, Nat.reduceBEq, s4], by simp (disch := first | (simp only [go_sem, gb0, eq_self]; done) | omega | (simp only [gl1, gl2]; omega)) only [go_sem, ↓reduceIte, Nat.reduceEqDiff, Nat.reduceAdd, Nat.reduceMul, Nat.reduceSub, Int.reduceToNat, Nat.reduceBEq, s5], by omega, b0, hbid, .nil, by simp (disch := first | (simp only [go_sem, gb0, eq_self]; done) | omega | (simp only [gl1, gl2]; omega)) only [go_sem, ↓reduceIte, Nat.reduceEqDiff, Nat.reduceAdd, Nat.reduceMul, Nat.reduceSub, Int.reduceToNat, Nat.reduceBEq], .inl ⟨rfl, rfl⟩⟩ ?_
      rintro i st g hi s12 ⟨s1, s4, s5, hgn, g0, gid, y, s11, oy⟩
      by_cases hin : i < n
      case neg =>
        have hie : i = n := by omega
        subst hie
        simp (disch := first | (simp only [go_sem, gb0, eq_self]; done) | omega | (simp only [gl1, gl2]; omega)) only [go_sem, ↓reduceIte, Nat.reduceEqDiff, Nat.reduceAdd, Nat.reduceMul, Nat.reduceSub, Int.reduceToNat, Nat.reduceBEq, s1, s4, s5, s11, s12, hin]
        exact ⟨hgn, gid, _, rfl, oy⟩
      have hin' : (i : Int) < n := by omega
      have hip : i < pay.length := by omega
      have hip' : (i : Int) < pay.length := by omega
      have hld := load_pair (.struct #[{ name := "Num", type := 3, offset := 0, embedded := false, tag := "", pkgPath := "", byteOffset := 0 }, { name := "Den", type := 3, offset := 1, embedded := false, tag := "", pkgPath := "", byteOffset := 8 }]) rfl b i (by omega)
      have l0 : 0 < g.nx := by omega
      have lid : id < g.nx := by omega
      have hfs := filtL_succ (fun i => decide ((nth b i).1 = nth pay i) && decide ((nth b i).2 = 1)) i
      have hfl := filtL_len (fun i => decide ((nth b i).1 = nth pay i) && decide ((nth b i).2 = 1)) i
      obtain ⟨ys, hys⟩ : ∃ ys, ys = stopsL n pay b i := ⟨_, rfl⟩
      have hys2 : filtL (fun i => decide ((nth b i).1 = nth pay i) && decide ((nth b i).2 = 1)) i = ys := hys.symm
      rw [← hys] at oy
      rw [hys2] at hfs hfl
      have hfs3 : stopsL n pay b (i + 1) = if (decide ((nth b i).1 = nth pay i) && decide ((nth b i).2 = 1)) = true then ys ++ [(i : Int)] else ys := hfs
      cases hc : (decide ((nth b i).1 = nth pay i) && decide ((nth b i).2 = 1)) with
      | false =>
        rw [hc] at hfs3
        have hfs4 : stopsL n pay b (i + 1) = ys := hfs3
        simp (disch := first | (simp only [go_sem, gb0, eq_self]; done) | omega | (simp only [gl1, gl2]; omega)) only [go_sem, ↓reduceIte, Nat.reduceEqDiff, Nat.reduceAdd, Nat.reduceMul, Nat.reduceSub, Int.reduceToNat, Nat.reduceBEq, s1, s4, s5, s11, s12, hin, hin', hip, hip', g0, gid, l0, lid, hld, hc, List.drop_succ_cons]
        rw [ForK_normal]
        exact ⟨hin, by simp (disch := first | (simp only [go_sem, gb0, eq_self]; done) | omega | (simp only [gl1, gl2]; omega)) only [go_sem, ↓reduceIte, Nat.reduceEqDiff, Nat.reduceAdd, Nat.reduceMul, Nat.reduceSub, Int.reduceToNat, Nat.reduceBEq, s12], by simp (disch := first | (simp only [go_sem, gb0, eq_self]; done) | omega | (simp only [gl1, gl2]; omega)) only [go_sem, ↓reduceIte, Nat.reduceEqDiff, Nat.reduceAdd, Nat.reduceMul, Nat.reduceSub, Int.reduceToNat, Nat.reduceBEq, s1], by simp (disch := first | (simp only [go_sem, gb0, eq_self]; done) | omega | (simp only [gl1, gl2]; omega)) only [go_sem, ↓reduceIte, Nat.reduceEqDiff, Nat.reduceAdd, Nat.reduceMul, Nat.reduceSub, Int.reduceToNat, Nat.reduceBEq, s4], by simp (disch := first | (simp only [go_sem, gb0, eq_self]; done) | omega | (simp only [gl1, gl2]; omega)) only [go_sem, ↓reduceIte, Nat.reduceEqDiff, Nat.reduceAdd, Nat.reduceMul, Nat.reduceSub, Int.reduceToNat, Nat.reduceBEq, s5], hgn, g0, gid, y, by simp (disch := first | (simp only [go_sem, gb0, eq_self]; done) | omega | (simp only [gl1, gl2]; omega)) only [go_sem, ↓reduceIte, Nat.reduceEqDiff, Nat.reduceAdd, Nat.reduceMul, Nat.reduceSub, Int.reduceToNat, Nat.reduceBEq, s11], by rw [hfs4]; exact oy⟩
      | true =>
        rw [hc] at hfs3
        have hfs4 : stopsL n pay b (i + 1) = ys ++ [(i : Int)] := hfs3
        have hbs := fun h => bsB_one (P := Try.prog) 3 (I i) (I i) (I 0) h isz3 izero3 rfl rfl rfl rfl rfl rfl rfl
        have happ := app_one (P := Try.prog) oy.own 3 8 (I 0) (i : Int) isz3 ibytes3 izero3 rfl (by omega) (by omega)
        have ln : B ≤ (appH g y ((ys ++ [(i : Int)]).flatMap (e1 I))).nx := by rw [appH_nx]; omega
        have lo : OwnGe B (e1 I) 1 (appH g y ((ys ++ [(i : Int)]).flatMap (e1 I))) (appV g (ys ++ [(i : Int)]).length 1) (stopsL n pay b (i + 1)) := by
          rw [hfs4]
          exact OwnGe.app _ hgn _
        have ll0 : (appH g y ((ys ++ [(i : Int)]).flatMap (e1 I))).bl 0 = some (.cells false false [LLI nx, LI pay, LI cost]) := by rw [oy.low (by omega) (by omega)]; exact g0
        have ll1 : (appH g y ((ys ++ [(i : Int)]).flatMap (e1 I))).bl id = some (.cells false true (b.flatMap eP)) := by rw [oy.low (by omega) (by omega)]; exact gid
        generalize appH g y ((ys ++ [(i : Int)]).flatMap (e1 I)) = G at *
        generalize appV g (ys ++ [(i : Int)]).length 1 = u at *
        simp (disch := first | (simp only [go_sem, gb0, eq_self]; done) | omega | (simp only [gl1, gl2]; omega)) only [go_sem, ↓reduceIte, Nat.reduceEqDiff, Nat.reduceAdd, Nat.reduceMul, Nat.reduceSub, Int.reduceToNat, Nat.reduceBEq, s1, s4, s5, s11, s12, hin, hin', hip, hip', g0, gid, l0, lid, hld, hc, hbs, happ, List.drop_succ_cons]
        rw [ForK_normal]
        exact ⟨hin, by simp (disch := first | (simp only [go_sem, gb0, eq_self]; done) | omega | (simp only [gl1, gl2]; omega)) only [go_sem, ↓reduceIte, Nat.reduceEqDiff, Nat.reduceAdd, Nat.reduceMul, Nat.reduceSub, Int.reduceToNat, Nat.reduceBEq, s12], by simp (disch := first | (simp only [go_sem, gb0, eq_self]; done) | omega | (simp only [gl1, gl2]; omega)) only [go_sem, ↓reduceIte, Nat.reduceEqDiff, Nat.reduceAdd, Nat.reduceMul, Nat.reduceSub, Int.reduceToNat, Nat.reduceBEq, s1], by simp (disch := first | (simp only [go_sem, gb0, eq_self]; done) | omega | (simp only [gl1, gl2]; omega)) only [go_sem, ↓reduceIte, Nat.reduceEqDiff, Nat.reduceAdd, Nat.reduceMul, Nat.reduceSub, Int.reduceToNat, Nat.reduceBEq, s4], by simp (disch := first | (simp only [go_sem, gb0, eq_self]; done) | omega | (simp only [gl1, gl2]; omega)) only [go_sem, ↓reduceIte, Nat.reduceEqDiff, Nat.reduceAdd, Nat.reduceMul, Nat.reduceSub, Int.reduceToNat, Nat.reduceBEq, s5], ln, ll0, ll1, _, by simp (disch := first | (simp only [go_sem, gb0, eq_self]; done) | omega | (simp only [gl1, gl2]; omega)) only [go_sem, ↓reduceIte, Nat.reduceEqDiff, Nat.reduceAdd, Nat.reduceMul, Nat.reduceSub, Int.reduceToNat, Nat.reduceBEq], lo⟩
    · rintro st g ⟨s5, hgn, gid, y, s11, oy⟩
      simp (disch := first | (simp only [go_sem, gb0, eq_self]; done) | omega | (simp only [gl1, gl2]; omega)) only [go_sem, ↓reduceIte, Nat.reduceEqDiff, Nat.reduceAdd, Nat.reduceMul, Nat.reduceSub, Int.reduceToNat, Nat.reduceBEq, s5, s11]
      have hx := export_own2 28 23 (h := g) (f := eP) (g := e1 I) (v := .sl id 0 n 2) (w := y) (xs := b) (ys := stopsL n pay b n) (.inr ⟨id, by rw [hbl], by omega, gid⟩) oy.own (by
        intro id1 off k s id2 off' k' s' e1 e2
        cases e1
        rcases oy with ⟨e3, _⟩ | ⟨w, h1, e3, _⟩
        · rw [e3] at e2; cases e2
        · rw [e3] at e2; cases e2; omega)
      rw [sealA_sl] at hx
      exact hx
end Go.Proofs.Ytgamcclfdkpcgaa

set_option linter.unusedVariables false
set_option linter.unusedSimpArgs false
set_option maxRecDepth 10000
namespace Go.Proofs.Ytgamcclfdkpcgaa
open Go Go.Am

variable {h h' : Hp} {K : AV → Hp → Prop}

theorem ways_of {nx : List (List Int)} {pay cost : List Int} (C : okC nx pay cost) : Ways (chA nx pay cost) nx.length (sndB nx.length (wF nx)) (supB nx.length (wF nx) (pF pay) (pF cost)) (eqR nx pay cost) (valL nx pay cost) :=
  ⟨f54_con C, fun x _ => f56_con C x, fun x _ => ⟨_, rfl, matA_pure _⟩, fun x h => f55_con C x (sndB_iff.1 h), fun x h => f69_con C x (sndB_iff.1 h)⟩
theorem f49_pure {nx : List (List Int)} {pay cost : List Int} (C : okC nx pay cost) : PureOk Try.prog 49 [chA nx pay cost] (LP (bestL nx pay cost)) := best_pure nx pay cost C.n6 (ways_of C)
def BestRel (args : List AV) (r : AV) : Prop := ∃ nx pay cost, okC nx pay cost ∧ args = [chA nx pay cost] ∧ r = LP (bestL nx pay cost)
theorem map_inj {α β : Type} {f : α → β} (hf : ∀ a b, f a = f b → a = b) : ∀ {xs ys : List α}, xs.map f = ys.map f → xs = ys
  | [], [], _ => rfl
  | [], _ :: _, h => by cases h
  | _ :: _, [], h => by cases h
  | x :: xs, y :: ys, h => by
    simp only [List.map_cons, List.cons.injEq] at h
    rw [hf _ _ h.1, map_inj hf h.2]
theorem L_inj {α : Type} {f : α → List AV} (hf : ∀ a b, f a = f b → a = b) {xs ys : List α} (h : L f xs = L f ys) : xs = ys := by
  injection h with h; exact map_inj hf h
theorem LI_inj {xs ys : List Int} (h : LI xs = LI ys) : xs = ys := L_inj (fun a b h => by injection h with h; injection h) h
theorem LLI_inj {xs ys : List (List Int)} (h : LLI xs = LLI ys) : xs = ys := L_inj (fun a b h => by injection h with h; exact LI_inj h) h
theorem BestRel.det {args : List AV} {r s : AV} (h : BestRel args r) (k : BestRel args s) : r = s := by
  obtain ⟨a, b, c, _, e, rfl⟩ := h
  obtain ⟨a', b', c', _, e', rfl⟩ := k
  rw [e] at e'
  simp only [List.cons.injEq, AV.agg.injEq, and_true] at e'
  obtain ⟨e1, e2, e3⟩ := e'
  rw [LLI_inj e1, LI_inj e2, LI_inj e3]

def baseX : List Nat := [15, 17, 18, 19, 20, 22, 28, 29, 30, 31, 32, 33, 34, 35, 36, 37, 47, 48, 50, 63, 66]
open Classical in
noncomputable def extX (f : FuncId) (args : List AV) : Option AV :=
  if f = 49 then (if h : ∃ r, BestRel args r then some h.choose else none)
  else if f = 21 then (if args = [] then some (.bool true) else none)
  else if baseX.contains f = true then (if h : ∃ r, Con Try.prog cfg f args r then some h.choose else none) else none
noncomputable def cfgX : Cfg := { cfg with ext := extX }
theorem hextX : ExtOk Try.prog cfgX := by
  intro f args r he
  have he : extX f args = some r := he
  unfold extX at he
  split at he
  · rename_i h49
    split at he
    · rename_i h
      cases he
      obtain ⟨nx, pay, cost, C, e, er⟩ := h.choose_spec
      subst h49
      rw [er, e]
      exact ⟨f49_pure C, fun _ => pure_L _⟩
    · cases he
  split at he
  · rename_i h21
    split at he
    · rename_i hn
      cases he
      subst h21; subst hn
      exact ⟨f21_pure, fun _ => rfl⟩
    · cases he
  split at he
  · rename_i hbase
    split at he
    · rename_i h
      cases he
      obtain ⟨k, hk⟩ := h.choose_spec
      exact ⟨(sound hext0 k).2.2.1 _ _ _ hk, fun ho => callP_pure (P := Try.prog) (cfg := cfg) (fun _ _ _ h => by cases h) rfl hk⟩
    · cases he
  · cases he
theorem liftX {f : FuncId} {args : List AV} {r : AV} (hb : (decide (f = 49) || (decide (f = 21) || !baseX.contains f)) = false) (hc : Con Try.prog cfg f args r) : Con Try.prog cfgX f args r := by
  simp only [Bool.or_eq_false_iff, decide_eq_false_iff_not, Bool.not_eq_false'] at hb
  refine ⟨1, ?_⟩
  have : extX f args = some r := by
    unfold extX
    have hex : ∃ r, Con Try.prog cfg f args r := ⟨r, hc⟩
    rw [if_neg hb.1, if_neg hb.2.1, if_pos hb.2.2, dif_pos hex]
    obtain ⟨k, hk⟩ := hex.choose_spec
    obtain ⟨k', hk'⟩ := hc
    rw [callP_det hk hk']
  show (match extX f args with | some r => some r | none => _) = _
  rw [this]
theorem awakeX : Con Try.prog cfgX 21 [] (.bool true) := by
  refine ⟨1, ?_⟩
  have : cfgX.ext 21 [] = some (.bool true) := by
    show extX 21 [] = _
    unfold extX
    rw [if_neg (by decide), if_pos rfl, if_pos rfl]
  simp only [callP, this]
theorem bestX {nx : List (List Int)} {pay cost : List Int} (C : okC nx pay cost) : Con Try.prog cfgX 49 [chA nx pay cost] (LP (bestL nx pay cost)) := by
  refine ⟨1, ?_⟩
  have hr : BestRel [chA nx pay cost] (LP (bestL nx pay cost)) := ⟨nx, pay, cost, C, rfl, rfl⟩
  have : extX 49 [chA nx pay cost] = some (LP (bestL nx pay cost)) := by
    unfold extX
    have hex : ∃ r, BestRel [chA nx pay cost] r := ⟨_, hr⟩
    rw [if_pos rfl, dif_pos hex, BestRel.det hex.choose_spec hr]
  show (match extX 49 [chA nx pay cost] with | some r => some r | none => _) = _
  rw [this]
@[go_sem] theorem shr49 : cfg.shared 49 = false := by kernel_rfl
@[go_sem] theorem kX21 : ConW Try.prog cfgX 21 h (some ([], h')) K = K (.bool true) h := ConW_num awakeX rfl
@[go_sem] theorem cfgX_strict (a b : Nat) : cfgX.strict a b = cfg.strict a b := rfl
@[go_sem] theorem cfgX_shared (f : Nat) : cfgX.shared f = cfg.shared f := rfl
@[go_sem] theorem cfgX_own (f : Nat) : cfgX.own f = cfg.own f := rfl
@[go_sem] theorem cfgX_kn (f : Nat) : cfgX.keepNil f = cfg.keepNil f := rfl
@[go_sem] theorem cfgX_wr (a b : Nat) : cfgX.wr a b = cfg.wr a b := rfl
theorem okX8 : funcOk cfgX Try.f8 (Try.f8.body.getD .skip) = true := by kernel_rfl
theorem okX9 : funcOk cfgX Try.f9 (Try.f9.body.getD .skip) = true := by kernel_rfl
theorem okX13 : funcOk cfgX Try.f13 (Try.f13.body.getD .skip) = true := by kernel_rfl
theorem okX14 : funcOk cfgX Try.f14 (Try.f14.body.getD .skip) = true := by kernel_rfl
theorem okX16 : funcOk cfgX Try.f16 (Try.f16.body.getD .skip) = true := by kernel_rfl
theorem okX46 : funcOk cfgX Try.f46 (Try.f46.body.getD .skip) = true := by kernel_rfl
end Go.Proofs.Ytgamcclfdkpcgaa
