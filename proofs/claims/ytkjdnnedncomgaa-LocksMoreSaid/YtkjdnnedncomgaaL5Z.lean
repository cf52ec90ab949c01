/-
  The program's 'options': all that one chamber can keep apart.
-/
import Derived.Test.YtkjdnnedncomgaaL5Y
set_option linter.unusedVariables false
set_option linter.unusedSimpArgs false
set_option maxRecDepth 10000
namespace Go.Proofs.Ytkjdnnedncomgaa
open Go Go.Am

variable {h h' : Hp} {K : AV → Hp → Prop}

/-- All ways to go on with the depths of m more keys. -/
def lv (d : Nat) : Nat → List Int → Nat → List (List Int)
  | 0, path, _ => [path]
  | m + 1, path, used => (List.range (min (used + 1) d)).flatMap fun i => lv d m (path ++ [((i + 1 : Nat) : Int)]) (max used (i + 1))
theorem lv_len (d : Nat) : ∀ m path used, (lv d m path used).length ≤ d ^ m := by
  intro m
  induction m with
  | zero => intro path used; simp [lv]
  | succ m ih =>
    intro path used
    rw [lv, List.length_flatMap]
    have : ∀ l : List Nat, (l.map fun i => (lv d m (path ++ [((i + 1 : Nat) : Int)]) (max used (i + 1))).length).sum ≤ l.length * d ^ m := by
      intro l
      induction l with
      | nil => simp
      | cons x l ih2 => simp only [List.map_cons, List.sum_cons, List.length_cons, Nat.succ_mul]; have := ih (path ++ [((x + 1 : Nat) : Int)]) (max used (x + 1)); omega
    refine Nat.le_trans (this _) ?_
    rw [List.length_range, Nat.pow_succ, Nat.mul_comm]
    exact Nat.mul_le_mul_left _ (Nat.min_le_right _ _)

/-- One colouring more: kept if what it keeps apart is new. -/
def addC (a : List (List Int)) (acc : List (Nat × List Int)) (x : List Int) : List (Nat × List Int) := if acc.any (fun p => decide (p.1 = blk a x)) then acc else acc ++ [(blk a x, x)]
theorem addC_len (a : List (List Int)) (l : List (List Int)) : ∀ acc, (l.foldl (addC a) acc).length ≤ acc.length + l.length := by
  induction l with
  | nil => intro acc; simp
  | cons x l ih =>
    intro acc
    rw [List.foldl_cons]
    have := ih (addC a acc x)
    have h2 : (addC a acc x).length ≤ acc.length + 1 := by
      unfold addC; split
      · omega
      · simp
    rw [List.length_cons]; omega

/-- What is found so far: each set once, each with depths. -/
structure AccOk (a : List (List Int)) (d : Int) (acc : List (Nat × List Int)) : Prop where
  pw : acc.Pairwise fun p q => p.1 ≠ q.1
  dep : ∀ p ∈ acc, Dep p.2 a.length d
  eq : ∀ p ∈ acc, p.1 = blk a p.2
theorem AccOk.add {a : List (List Int)} {d : Int} {acc : List (Nat × List Int)} (o : AccOk a d acc) {x : List Int} (hx : Dep x a.length d) : AccOk a d (addC a acc x) := by
  unfold addC
  split
  · exact o
  · rename_i hn
    refine ⟨?_, ?_, ?_⟩
    · rw [List.pairwise_append]
      refine ⟨o.pw, by simp, fun p hp q hq => ?_⟩
      simp at hq
      subst hq
      intro e
      exact hn (List.any_eq_true.2 ⟨p, hp, by simpa using e⟩)
    · intro p hp
      rcases List.mem_append.1 hp with h | h
      · exact o.dep p h
      · simp at h; subst h; exact hx
    · intro p hp
      rcases List.mem_append.1 hp with h | h
      · exact o.eq p h
      · simp at h; subst h; rfl
def esOf (acc : List (Nat × List Int)) : List (Int × AV) := acc.map fun p => ((p.1 : Int), AV.agg (eC p.2))
def lsOf (acc : List (Nat × List Int)) : List Int := acc.map fun p => (p.1 : Int)
theorem findK_acc {acc : List (Nat × List Int)} (hp : acc.Pairwise fun p q => p.1 ≠ q.1) {p : Nat × List Int} (h : p ∈ acc) : findK (p.1 : Int) (esOf acc) = some (.agg (eC p.2)) := by
  induction acc with
  | nil => cases h
  | cons q acc ih =>
    rw [List.pairwise_cons] at hp
    rw [esOf, List.map_cons, findK]
    rcases List.mem_cons.1 h with rfl | h
    · simp
    · have := hp.1 p h
      rw [if_neg (by omega)]
      exact ih hp.2 h

abbrev zero6 : AV := .agg [I 0, I 0, I 0, I 0, I 0, I 0]
theorem eC_eq (x : List Int) : eC x = [I (nth x 0), I (nth x 1), I (nth x 2), I (nth x 3), I (nth x 4), I (nth x 5)] := rfl
theorem guard69 : Try.prog.eqGuardType Try.prog.depth 69 = false := by kernel_rfl
theorem eql69 (x : List Int) (hx : nth x 0 ≠ 0) : binA Try.prog .eql 69 (.agg (eC x)) zero6 = some (.bool false) := by
  have e : eqA Try.prog 69 (.agg (eC x)) zero6 = some false := by
    simp [eqA, eqAgg, guard69, und69, und3, isz3, eqArr, eqCell, eC_eq, hx]
  simp only [binA, isEq, Option.bind_some, e, Option.map_some]
  rfl
theorem eql69z : binA Try.prog .eql 69 zero6 zero6 = some (.bool true) := by
  have e : eqA Try.prog 69 zero6 zero6 = some true := by
    simp [eqA, eqAgg, guard69, und69, und3, isz3, eqArr, eqCell]
  simp only [binA, isEq, Option.bind_some, e, Option.map_some]
  rfl
theorem build69 : buildB Try.prog (some (.array 6 3)) (some zero6) [] = some zero6 := by
  simp [buildB, isz3, fillA, AV.isCell]

abbrev capsC : List AV := [.ptr 0 0, .ptr 5 0, .ptr 3 0, .ptr 4 0, .ptr 1 0, .ptr 6 0]
/-- Memory while colourings are tried. -/
structure Inv (a : List (List Int)) (d : Nat) (h : Hp) (acc : List (Nat × List Int)) (xs : List Int) : Prop where
  nx : 7 ≤ h.nx
  b0 : h.bl 0 = some (.cells false false [LLI a])
  b1 : h.bl 1 = some (.cells false false [I d])
  b2 : h.bl 2 = some (.mp (esOf acc))
  b3 : h.bl 3 = some (.cells false false [.mp 2])
  b4 : ∃ v, h.bl 4 = some (.cells false false [v]) ∧ Own (e1 I) 1 h v (lsOf acc) ∧ ∀ id off n sz, v = .sl id off n sz → 7 ≤ id
  b5 : h.bl 5 = some (.cells false false (xs.flatMap (e1 I)))
  b6 : h.bl 6 = some (.cells false false [.fn 57 capsC])
  xl : xs.length = 6
  ok : AccOk a d acc

theorem app4 {v : AV} {xs : List Int} {h2 : Hp} (o : Own (e1 I) 1 h2 v xs) (n : Int) (hl : xs.length ≤ 1000000) :
    appB Try.prog h2 (some (.slice 80)) true v (.lst [[I n]]) = some (appV h2 (xs ++ [n]).length 1, appH h2 v ((xs ++ [n]).flatMap (e1 I))) :=
  app_one (P := Try.prog) o 80 8 (I 0) n isz80 ibytes80 izero80 rfl (by omega) (by omega)

theorem f57_shr {a : List (List Int)} (f : Pl a) {d : Nat} (hd : 1 ≤ d ∧ d ≤ 4) : ∀ (m k : Nat) (path : List Int) (used : Nat) (acc : List (Nat × List Int)) (xs : List Int) (h : Hp), k + m = a.length → path.length = k → Dep path k d → used ≤ d →
    (∀ i, i < k → nth xs i = nth path i) → (∀ i, a.length ≤ i → nth xs i = 0) → Inv a d h acc xs → acc.length + (lv d m path used).length ≤ 1000000 →
    ∃ h' xs', Shr Try.prog cfg 57 ([I k, I used] ++ capsC) h (.tup []) h' ∧ Inv a d h' ((lv d m path used).foldl (addC a) acc) xs' ∧ (∀ i, i < k → nth xs' i = nth path i) ∧ (∀ i, a.length ≤ i → nth xs' i = 0) := by
  intro m
  have hk6 := f.keys
  induction m with
  | zero =>
    intro k path used acc xs h hkm hpl hdp hud hxp hxz inv hcap
    obtain ⟨v, b4, how, hv⟩ := inv.b4
    have hxs : xs.flatMap (e1 I) = eC path := by
      rw [eC]
      congr 1
      refine list_ext_nth (by rw [inv.xl, pad6_len]) fun i hi => ?_
      rw [inv.xl] at hi
      rw [pad6_nth hi]
      rcases Nat.lt_or_ge i k with h1 | h1
      · exact hxp i h1
      · rw [hxz i (by omega)]
        simp [nth, List.getElem?_eq_none (show path.length ≤ i by omega)]
    have hkn : k = a.length := by omega
    subst hkn
    have hdp' : Dep path a.length d := hdp
    have kk := fun h h' K => k58 (h := h) (h' := h') (K := K) f (d := (d : Int)) (by omega) hdp'
    have hld := loadC_row (f := eC) (.array 6 3) rfl path
    have hpu : AV.pureL (eC path) = true := RowEnc.pure (f := eC) path
    have hlk := lookB_one 80 69 .i64 zero6 2 (esOf acc) (blk a path : Int) false rfl
    suffices hh : ∃ v h', Shr Try.prog cfg 57 [I a.length, I used, .ptr 0 0, .ptr 5 0, .ptr 3 0, .ptr 4 0, .ptr 1 0, .ptr 6 0] h v h' ∧ (v = .tup [] ∧ ∃ xs', Inv a d h' (addC a acc path) xs' ∧ (∀ i, i < a.length → nth xs' i = nth path i) ∧ (∀ i, a.length ≤ i → nth xs' i = 0)) by
      obtain ⟨v, h', hs, rfl, xs', h1, h2, h3⟩ := hh
      exact ⟨h', xs', hs, by simpa [lv] using h1, h2, h3⟩
    refine Shr_intro Try.func57 rfl ok57 (Nat.le_of_ble_eq_true rfl) ?_
    simp only [Try.f57, Option.getD_some, initSt8]
    by_cases hany : acc.any (fun p => decide (p.1 = blk a path)) = true
    · obtain ⟨p, hp, he⟩ := List.any_eq_true.1 hany
      simp only [decide_eq_true_eq] at he
      have hfk := findK_acc inv.ok.pw hp
      rw [he] at hfk
      rw [hfk, Option.getD_some] at hlk
      have hne := eql69 p.2 (by have := inv.ok.dep p hp 0 (by omega); omega)
      simp (disch := first | (simp only [go_sem, Bool.and_self, eq_self]; done) | omega | (simp only [List.length_cons, List.length_nil]; omega)) only [go_sem, ↓reduceIte, Nat.reduceEqDiff, Nat.reduceAdd, Nat.reduceMul, Nat.reduceSub, Int.reduceToNat, List.cons_append, List.nil_append, inv.b0, inv.b5, hxs, hld, sealA_agg _ hpu, kk, inv.b3, inv.b2, hlk, build69, hne]
      refine ⟨xs, ?_, hxp, hxz⟩
      rw [addC, if_pos hany]; exact inv
    · have hno : ∀ q ∈ esOf acc, q.1 ≠ (blk a path : Int) := by
        intro q hq e
        simp only [esOf, List.mem_map] at hq
        obtain ⟨p, hp, rfl⟩ := hq
        exact hany (List.any_eq_true.2 ⟨p, hp, by simp only [decide_eq_true_eq]; have e' : (p.1 : Int) = (blk a path : Int) := e; omega⟩)
      have hfk := findK_none hno
      rw [hfk, Option.getD_none] at hlk
      have hput := putK_none (x := .agg (eC path)) hno
      have hlen : (lsOf acc).length ≤ 1000000 := by simp [lsOf]; omega
      have hbs := fun h : Hp => bsB_one (P := Try.prog) (h := h) 80 (I (blk a path)) (I (blk a path)) (I 0) h isz80 izero80 rfl rfl rfl rfl rfl rfl rfl
      generalize hG : h.put 2 (some (.mp (esOf acc ++ [((blk a path : Int), .agg (eC path))]))) = G
      have hG1 : ∀ id, id ≠ 2 → G.bl id = h.bl id := by intro id hid; rw [← hG, put_bl, if_neg hid]
      have hG2 : G.nx = h.nx := by rw [← hG]; rfl
      have hG3 : G.bl 2 = some (.mp (esOf acc ++ [((blk a path : Int), .agg (eC path))])) := by rw [← hG, put_bl, if_pos rfl]
      have howG : Own (e1 I) 1 G v (lsOf acc) := by
        rcases how with o | ⟨id, q1, q2, q3⟩
        · exact .inl o
        · exact .inr ⟨id, q1, by omega, by rw [hG1 id (by have := hv _ _ _ _ q1; omega)]; exact q3⟩
      have happ := app4 howG (blk a path : Int) hlen
      have c0 := hG1 0 (by decide)
      have c4 : G.bl 4 = some (.cells false false [v]) := by rw [hG1 4 (by decide)]; exact b4
      have keep : ∀ id, id < 7 → (appH G v ((lsOf acc ++ [(blk a path : Int)]).flatMap (e1 I))).bl id = G.bl id := by
        intro id hid
        have := inv.nx
        exact appH_bl _ _ _ _ (by omega) (fun id' off n sz e => by have := hv _ _ _ _ e; omega)
      have k4 := keep 4 (by decide)
      rw [c4] at k4
      simp (disch := first | (simp only [go_sem, Bool.and_self, eq_self]; done) | omega | (simp only [List.length_cons, List.length_nil]; omega)) only [go_sem, ↓reduceIte, Nat.reduceEqDiff, Nat.reduceAdd, Nat.reduceMul, Nat.reduceSub, Int.reduceToNat, List.cons_append, List.nil_append, inv.b0, inv.b5, hxs, hld, sealA_agg _ hpu, kk, inv.b3, inv.b2, hlk, build69, eql69z, hput, hG, hbs, c4, happ, k4, appV]
      refine ⟨xs, ?_, hxp, hxz⟩
      rw [addC, if_neg hany]
      have hnx := inv.nx
      refine ⟨by simp (disch := first | (simp only [go_sem, Bool.and_self, eq_self]; done) | omega | (simp only [List.length_cons, List.length_nil]; omega)) only [go_sem, ↓reduceIte, Nat.reduceEqDiff, Nat.reduceAdd, Nat.reduceMul, Nat.reduceSub, Int.reduceToNat, appH_nx]; omega, ?_, ?_, ?_, ?_, ⟨_, by simp (disch := first | (simp only [go_sem, Bool.and_self, eq_self]; done) | omega | (simp only [List.length_cons, List.length_nil]; omega)) only [go_sem, ↓reduceIte, Nat.reduceEqDiff, Nat.reduceAdd, Nat.reduceMul, Nat.reduceSub, Int.reduceToNat]; rfl, ?_, ?_⟩, ?_, ?_, inv.xl, ?_⟩
      · simp (disch := first | (simp only [go_sem, Bool.and_self, eq_self]; done) | omega | (simp only [List.length_cons, List.length_nil]; omega)) only [go_sem, ↓reduceIte, Nat.reduceEqDiff, Nat.reduceAdd, Nat.reduceMul, Nat.reduceSub, Int.reduceToNat, keep 0 (by decide), hG1 0 (by decide), inv.b0]
      · simp (disch := first | (simp only [go_sem, Bool.and_self, eq_self]; done) | omega | (simp only [List.length_cons, List.length_nil]; omega)) only [go_sem, ↓reduceIte, Nat.reduceEqDiff, Nat.reduceAdd, Nat.reduceMul, Nat.reduceSub, Int.reduceToNat, keep 1 (by decide), hG1 1 (by decide), inv.b1]
      · simp (disch := first | (simp only [go_sem, Bool.and_self, eq_self]; done) | omega | (simp only [List.length_cons, List.length_nil]; omega)) only [go_sem, ↓reduceIte, Nat.reduceEqDiff, Nat.reduceAdd, Nat.reduceMul, Nat.reduceSub, Int.reduceToNat, keep 2 (by decide), hG3]
        simp [esOf]
      · simp (disch := first | (simp only [go_sem, Bool.and_self, eq_self]; done) | omega | (simp only [List.length_cons, List.length_nil]; omega)) only [go_sem, ↓reduceIte, Nat.reduceEqDiff, Nat.reduceAdd, Nat.reduceMul, Nat.reduceSub, Int.reduceToNat, keep 3 (by decide), hG1 3 (by decide), inv.b3]
      · have o := Own.app (f := e1 I) (sz := 1) G v (lsOf acc ++ [(blk a path : Int)])
        have e : lsOf (acc ++ [(blk a path, path)]) = lsOf acc ++ [(blk a path : Int)] := by simp [lsOf]
        rw [e]
        rcases o with ⟨q, _⟩ | ⟨id, q1, q2, q3⟩
        · unfold appV at q; cases q
        · refine .inr ⟨id, q1, q2, ?_⟩
          have : id = G.nx := by unfold appV at q1; cases q1; rfl
          rw [put_bl, if_neg (by omega)]; exact q3
      · intro id off n sz e; cases e; omega
      · simp (disch := first | (simp only [go_sem, Bool.and_self, eq_self]; done) | omega | (simp only [List.length_cons, List.length_nil]; omega)) only [go_sem, ↓reduceIte, Nat.reduceEqDiff, Nat.reduceAdd, Nat.reduceMul, Nat.reduceSub, Int.reduceToNat, keep 5 (by decide), hG1 5 (by decide), inv.b5]
      · simp (disch := first | (simp only [go_sem, Bool.and_self, eq_self]; done) | omega | (simp only [List.length_cons, List.length_nil]; omega)) only [go_sem, ↓reduceIte, Nat.reduceEqDiff, Nat.reduceAdd, Nat.reduceMul, Nat.reduceSub, Int.reduceToNat, keep 6 (by decide), hG1 6 (by decide), inv.b6]
      · have := inv.ok.add hdp'
        rw [addC, if_neg hany] at this
        exact this
  | succ m ih =>
    intro k path used acc xs h hkm hpl hdp hud hxp hxz inv hcap
    suffices hh : ∃ v h', Shr Try.prog cfg 57 [I k, I used, .ptr 0 0, .ptr 5 0, .ptr 3 0, .ptr 4 0, .ptr 1 0, .ptr 6 0] h v h' ∧ (v = .tup [] ∧ ∃ xs', Inv a d h' ((lv d (m + 1) path used).foldl (addC a) acc) xs' ∧ (∀ i, i < k → nth xs' i = nth path i) ∧ (∀ i, a.length ≤ i → nth xs' i = 0)) by
      obtain ⟨v, h', hs, rfl, xs', h1, h2, h3⟩ := hh
      exact ⟨h', xs', hs, h1, h2, h3⟩
    refine Shr_intro Try.func57 rfl ok57 (Nat.le_of_ble_eq_true rfl) ?_
    simp only [Try.f57, Option.getD_some, initSt8]
    have hkn : ¬ k = a.length := by omega
    simp (disch := first | (simp only [go_sem, Bool.and_self, eq_self]; done) | omega | (simp only [List.length_cons, List.length_nil]; omega)) only [go_sem, ↓reduceIte, Nat.reduceEqDiff, Nat.reduceAdd, Nat.reduceMul, Nat.reduceSub, Int.reduceToNat, List.cons_append, List.nil_append, inv.b0, hkn]
    refine WP_for1 11 (min (used + 1) d) (fun i st h => st 0 = I k ∧ st 1 = I used ∧ st 2 = .ptr 0 0 ∧ st 3 = .ptr 5 0 ∧ st 4 = .ptr 3 0 ∧ st 5 = .ptr 4 0 ∧ st 6 = .ptr 1 0 ∧ st 7 = .ptr 6 0 ∧ ∃ xs', Inv a d h (((List.range i).flatMap fun i => lv d m (path ++ [((i + 1 : Nat) : Int)]) (max used (i + 1))).foldl (addC a) acc) xs' ∧ (∀ i, i < k → nth xs' i = nth path i) ∧ (∀ i, a.length ≤ i → nth xs' i = 0))
      (by simp (disch := first | (simp only [go_sem, Bool.and_self, eq_self]; done) | omega | (simp only [List.length_cons, List.length_nil]; omega)) only [go_sem, ↓reduceIte, Nat.reduceEqDiff, Nat.reduceAdd, Nat.reduceMul, Nat.reduceSub, Int.reduceToNat]) ⟨by simp (disch := first | (simp only [go_sem, Bool.and_self, eq_self]; done) | omega | (simp only [List.length_cons, List.length_nil]; omega)) only [go_sem, ↓reduceIte, Nat.reduceEqDiff, Nat.reduceAdd, Nat.reduceMul, Nat.reduceSub, Int.reduceToNat], by simp (disch := first | (simp only [go_sem, Bool.and_self, eq_self]; done) | omega | (simp only [List.length_cons, List.length_nil]; omega)) only [go_sem, ↓reduceIte, Nat.reduceEqDiff, Nat.reduceAdd, Nat.reduceMul, Nat.reduceSub, Int.reduceToNat], by simp (disch := first | (simp only [go_sem, Bool.and_self, eq_self]; done) | omega | (simp only [List.length_cons, List.length_nil]; omega)) only [go_sem, ↓reduceIte, Nat.reduceEqDiff, Nat.reduceAdd, Nat.reduceMul, Nat.reduceSub, Int.reduceToNat], by simp (disch := first | (simp only [go_sem, Bool.and_self, eq_self]; done) | omega | (simp only [List.length_cons, List.length_nil]; omega)) only [go_sem, ↓reduceIte, Nat.reduceEqDiff, Nat.reduceAdd, Nat.reduceMul, Nat.reduceSub, Int.reduceToNat], by simp (disch := first | (simp only [go_sem, Bool.and_self, eq_self]; done) | omega | (simp only [List.length_cons, List.length_nil]; omega)) only [go_sem, ↓reduceIte, Nat.reduceEqDiff, Nat.reduceAdd, Nat.reduceMul, Nat.reduceSub, Int.reduceToNat], by simp (disch := first | (simp only [go_sem, Bool.and_self, eq_self]; done) | omega | (simp only [List.length_cons, List.length_nil]; omega)) only [go_sem, ↓reduceIte, Nat.reduceEqDiff, Nat.reduceAdd, Nat.reduceMul, Nat.reduceSub, Int.reduceToNat], by simp (disch := first | (simp only [go_sem, Bool.and_self, eq_self]; done) | omega | (simp only [List.length_cons, List.length_nil]; omega)) only [go_sem, ↓reduceIte, Nat.reduceEqDiff, Nat.reduceAdd, Nat.reduceMul, Nat.reduceSub, Int.reduceToNat], by simp (disch := first | (simp only [go_sem, Bool.and_self, eq_self]; done) | omega | (simp only [List.length_cons, List.length_nil]; omega)) only [go_sem, ↓reduceIte, Nat.reduceEqDiff, Nat.reduceAdd, Nat.reduceMul, Nat.reduceSub, Int.reduceToNat], xs, by simpa using inv, hxp, hxz⟩ ?_
    rintro i st h hi s11 ⟨s0, s1, s2, s3, s4, s5, s6, s7, xs, inv, hxp, hxz⟩
    have hb1 := inv.b1
    by_cases hlt : i < min (used + 1) d
    case neg =>
      have hie : i = min (used + 1) d := by omega
      have hcm : ¬ (i : Int) + 1 ≤ min ((used : Int) + 1) (d : Int) := by omega
      simp (disch := first | (simp only [go_sem, Bool.and_self, eq_self]; done) | omega | (simp only [List.length_cons, List.length_nil]; omega)) only [go_sem, ↓reduceIte, Nat.reduceEqDiff, Nat.reduceAdd, Nat.reduceMul, Nat.reduceSub, Int.reduceToNat, s0, s1, s2, s3, s4, s5, s6, s7, s11, hb1, hcm]
      subst hie
      exact ⟨xs, inv, hxp, hxz⟩
    have hcm : (i : Int) + 1 ≤ min ((used : Int) + 1) (d : Int) := by omega
    have hkx : k < xs.length := by rw [inv.xl]; omega
    have e2 : max (used : Int) ((i : Int) + 1) = ((max used (i + 1) : Nat) : Int) := by omega
    simp (disch := first | (simp only [go_sem, Bool.and_self, eq_self]; done) | omega | (simp only [List.length_cons, List.length_nil]; omega)) only [go_sem, ↓reduceIte, Nat.reduceEqDiff, Nat.reduceAdd, Nat.reduceMul, Nat.reduceSub, Int.reduceToNat, s0, s1, s2, s3, s4, s5, s6, s7, s11, hb1, hcm, inv.b5, hkx, inv.b6, e2]
    generalize hG : h.put 5 (some (.cells false false ((xs.set k ((i : Int) + 1)).flatMap (e1 I)))) = G
    have hG1 : ∀ id, id ≠ 5 → G.bl id = h.bl id := by intro id hid; rw [← hG, put_bl, if_neg hid]
    have hG2 : G.nx = h.nx := by rw [← hG]; rfl
    have hG3 : G.bl 5 = some (.cells false false ((xs.set k ((i : Int) + 1)).flatMap (e1 I))) := by rw [← hG, put_bl, if_pos rfl]
    have invG : Inv a d G (((List.range i).flatMap fun i => lv d m (path ++ [((i + 1 : Nat) : Int)]) (max used (i + 1))).foldl (addC a) acc) (xs.set k ((i : Int) + 1)) := by
      refine ⟨by rw [hG2]; exact inv.nx, by rw [hG1 0 (by decide)]; exact inv.b0, by rw [hG1 1 (by decide)]; exact inv.b1, by rw [hG1 2 (by decide)]; exact inv.b2, by rw [hG1 3 (by decide)]; exact inv.b3, ?_, hG3, by rw [hG1 6 (by decide)]; exact inv.b6, by rw [List.length_set]; exact inv.xl, inv.ok⟩
      obtain ⟨v, q1, q2, q3⟩ := inv.b4
      refine ⟨v, by rw [hG1 4 (by decide)]; exact q1, ?_, q3⟩
      rcases q2 with o | ⟨id, z1, z2, z3⟩
      · exact .inl o
      · exact .inr ⟨id, z1, by omega, by rw [hG1 id (by have := q3 _ _ _ _ z1; omega)]; exact z3⟩
    have hlen : ((((List.range i).flatMap fun i => lv d m (path ++ [((i + 1 : Nat) : Int)]) (max used (i + 1))).foldl (addC a) acc)).length + (lv d m (path ++ [((i + 1 : Nat) : Int)]) (max used (i + 1))).length ≤ 1000000 := by
      have h1 := addC_len a ((List.range i).flatMap fun i => lv d m (path ++ [((i + 1 : Nat) : Int)]) (max used (i + 1))) acc
      have h2 : ((List.range i).flatMap fun i => lv d m (path ++ [((i + 1 : Nat) : Int)]) (max used (i + 1))).length + (lv d m (path ++ [((i + 1 : Nat) : Int)]) (max used (i + 1))).length ≤ (lv d (m + 1) path used).length := by
        have hsplit : List.range (min (used + 1) d) = List.range i ++ [i] ++ (List.range' (i + 1) (min (used + 1) d - (i + 1))) := by
          have := List.range'_append_1 (s := 0) (m := i + 1) (n := min (used + 1) d - (i + 1))
          rw [Nat.zero_add] at this
          rw [← List.range_succ, List.range_eq_range', List.range_eq_range', this]
          congr 1; omega
        rw [lv, hsplit, List.flatMap_append, List.flatMap_append, List.length_append, List.length_append]
        simp only [List.flatMap_cons, List.flatMap_nil, List.append_nil]
        omega
      omega
    have hset : ∀ j, j < k + 1 → nth (xs.set k ((i : Int) + 1)) j = nth (path ++ [((i + 1 : Nat) : Int)]) j := by
      intro j hj
      rw [nth_set _ _ _ _ hkx]
      by_cases hjk : k = j
      · subst hjk
        rw [if_pos rfl, ← hpl, nth_append_last]; rfl
      · rw [if_neg hjk, nth_append_left _ _ _ (by omega)]
        exact hxp j (by omega)
    obtain ⟨h2, xs2, hS, inv2, hx2, hz2⟩ := ih (k + 1) (path ++ [((i + 1 : Nat) : Int)]) (max used (i + 1)) _ _ G (by omega) (by simp [hpl]) (by
      intro j hj
      rcases Nat.lt_or_ge j k with h1 | h1
      · rw [nth_append_left _ _ _ (by omega)]; exact hdp j h1
      · have : j = path.length := by omega
        subst this
        rw [nth_append_last]; omega) (by omega) hset (by
      intro j hj
      rw [nth_set _ _ _ _ hkx, if_neg (by omega)]; exact hxz j hj) invG hlen
    have hS' : Shr Try.prog cfg 57 [I ((k : Int) + 1), I ((max used (i + 1) : Nat) : Int), .ptr 0 0, .ptr 5 0, .ptr 3 0, .ptr 4 0, .ptr 1 0, .ptr 6 0] G (.tup []) h2 := hS
    have hc := fun K => CallW_shr (K := K) 57 _ shr57 hS'
    simp (disch := first | (simp only [go_sem, Bool.and_self, eq_self]; done) | omega | (simp only [List.length_cons, List.length_nil]; omega)) only [go_sem, ↓reduceIte, Nat.reduceEqDiff, Nat.reduceAdd, Nat.reduceMul, Nat.reduceSub, Int.reduceToNat, hc, s0, s1, s2, s3, s4, s5, s6, s7, s11]
    rw [For1K_normal]
    refine ⟨hlt, by simp (disch := first | (simp only [go_sem, Bool.and_self, eq_self]; done) | omega | (simp only [List.length_cons, List.length_nil]; omega)) only [go_sem, ↓reduceIte, Nat.reduceEqDiff, Nat.reduceAdd, Nat.reduceMul, Nat.reduceSub, Int.reduceToNat, s11], by simp (disch := first | (simp only [go_sem, Bool.and_self, eq_self]; done) | omega | (simp only [List.length_cons, List.length_nil]; omega)) only [go_sem, ↓reduceIte, Nat.reduceEqDiff, Nat.reduceAdd, Nat.reduceMul, Nat.reduceSub, Int.reduceToNat, s0], by simp (disch := first | (simp only [go_sem, Bool.and_self, eq_self]; done) | omega | (simp only [List.length_cons, List.length_nil]; omega)) only [go_sem, ↓reduceIte, Nat.reduceEqDiff, Nat.reduceAdd, Nat.reduceMul, Nat.reduceSub, Int.reduceToNat, s1], by simp (disch := first | (simp only [go_sem, Bool.and_self, eq_self]; done) | omega | (simp only [List.length_cons, List.length_nil]; omega)) only [go_sem, ↓reduceIte, Nat.reduceEqDiff, Nat.reduceAdd, Nat.reduceMul, Nat.reduceSub, Int.reduceToNat, s2], by simp (disch := first | (simp only [go_sem, Bool.and_self, eq_self]; done) | omega | (simp only [List.length_cons, List.length_nil]; omega)) only [go_sem, ↓reduceIte, Nat.reduceEqDiff, Nat.reduceAdd, Nat.reduceMul, Nat.reduceSub, Int.reduceToNat, s3], by simp (disch := first | (simp only [go_sem, Bool.and_self, eq_self]; done) | omega | (simp only [List.length_cons, List.length_nil]; omega)) only [go_sem, ↓reduceIte, Nat.reduceEqDiff, Nat.reduceAdd, Nat.reduceMul, Nat.reduceSub, Int.reduceToNat, s4], by simp (disch := first | (simp only [go_sem, Bool.and_self, eq_self]; done) | omega | (simp only [List.length_cons, List.length_nil]; omega)) only [go_sem, ↓reduceIte, Nat.reduceEqDiff, Nat.reduceAdd, Nat.reduceMul, Nat.reduceSub, Int.reduceToNat, s5], by simp (disch := first | (simp only [go_sem, Bool.and_self, eq_self]; done) | omega | (simp only [List.length_cons, List.length_nil]; omega)) only [go_sem, ↓reduceIte, Nat.reduceEqDiff, Nat.reduceAdd, Nat.reduceMul, Nat.reduceSub, Int.reduceToNat, s6], by simp (disch := first | (simp only [go_sem, Bool.and_self, eq_self]; done) | omega | (simp only [List.length_cons, List.length_nil]; omega)) only [go_sem, ↓reduceIte, Nat.reduceEqDiff, Nat.reduceAdd, Nat.reduceMul, Nat.reduceSub, Int.reduceToNat, s7], xs2, ?_, fun j hj => ?_, hz2⟩
    · rw [List.range_succ, List.flatMap_append, List.foldl_append]
      simpa using inv2
    · rw [hx2 j (by omega), nth_append_left _ _ _ (by omega)]
end Go.Proofs.Ytkjdnnedncomgaa
