/-
  list, network: copies of any input.
-/
import Derived.Test.YtpkakapbepkfdaaL1G
set_option linter.unusedVariables false
set_option linter.unusedSimpArgs false
set_option maxRecDepth 10000
namespace Go.Proofs.Ytpkakapbepkfdaa
open Go Go.Am

variable {h h' : Hp} {K : AV → Hp → Prop}

def listM (v : List Int) : List Int := v.take (min v.length 20)
theorem f17_con (v : List Int) (hv : v.length ≤ maxLen) : Con Try.prog cfg 17 [LI v] (LI (listM v)) := by
  have ml : maxLen = 9223372036854775807 := by decide
  have hmin : min (v.length : Int) 20 = ((min v.length 20 : Nat) : Int) := by omega
  have htl : (listM v).length = min v.length 20 := by rw [listM, List.length_take]; omega
  have hrow : v.take (min v.length 20) = listM v := rfl
  refine Con_intro Try.func17 rfl ok17 (Nat.le_of_ble_eq_true rfl) rfl ?_
  simp only [Try.f17, Option.getD_some, initSt1]
  have happ1 := fun h => app_nil (P := Try.prog) (h := h) (f := e1 I) 3 8 (I 0) (LI (listM v)) (listM v) isz3 ibytes3 izero3 rfl (cellsOf_L _ _) (lenA_L _ _) (by omega) (by omega)
  simp (disch := first | (simp only [go_sem, Bool.and_self, eq_self]; done) | omega | (simp only [List.length_cons, List.length_nil]; omega)) only [go_sem, ↓reduceIte, Nat.reduceEqDiff, Nat.reduceAdd, Nat.reduceMul, Nat.reduceSub, Int.reduceToNat, Nat.reduceBEq, List.size_toArray, List.length_cons, List.length_nil, Bool.false_and, Bool.true_and, Bool.or_false, Bool.false_or, Bool.and_false, Bool.and_true, hmin, hrow, happ1]
  exact export_Own (f := e1 I) 25 (.inr ⟨0, rfl, Nat.zero_lt_one, rfl⟩)
theorem k17 (v : List Int) (hv : v.length ≤ maxLen) : ConW Try.prog cfg 17 h (some ([LI v], h')) K = K (LI (listM v)) h' := by
  rw [ConW_any (f17_con v hv) rfl]; rfl

def tableRow (a : List (List Int)) (i : Nat) : List Int := listM (nth a i)
def tableM (a : List (List Int)) : List (List Int) := (List.range (min a.length 12)).map (tableRow a)
/-- A network on its way between functions: without any variable its lists are nil. -/
def netV (p t : List (List Int)) : AV := if p = [] ∧ t = [] then .agg [.nil, .nil] else .agg [LLI p, LLI t]

theorem own_cell {α : Type} {f : α → List AV} {sz : Nat} {v : AV} {xs : List α} (o : Own f sz h v xs) : v.isCell = true := by
  rcases o with ⟨rfl, _⟩ | ⟨id, rfl, _⟩ <;> rfl
theorem own_ne {α : Type} {f : α → List AV} {sz : Nat} {v : AV} {xs : List α} (o : Own f sz h v xs) {i : Nat} {fz : Bool} {flat : List AV} (hb : h.bl i = some (.cells fz false flat)) : ∀ id off n sz', v = .sl id off n sz' → i ≠ id := by
  intro id off n sz' e he
  rcases o with ⟨rfl, _⟩ | ⟨id', rfl, _, hc⟩
  · cases e
  · cases e; subst he; rw [hb] at hc; cases hc
theorem own_put {α : Type} {f : α → List AV} {sz : Nat} {v : AV} {xs : List α} (o : Own f sz h v xs) {i : Nat} {fz : Bool} {flat : List AV} (hb : h.bl i = some (.cells fz false flat)) (b : Option Blk) : Own f sz (h.put i b) v xs := by
  have hne := own_ne o hb
  rcases o with o | ⟨id, e, hi, hc⟩
  · exact .inl o
  · refine .inr ⟨id, e, hi, ?_⟩
    rw [put_bl, if_neg (fun h => hne _ _ _ _ e h.symm)]; exact hc

theorem export_net (t : TypeId) {v w : AV} {xs ys : List (List Int)} (o : Own (e1 LI) 1 h v xs) (q : Own (e1 LI) 1 h w ys) (d : Dis v w) (vn : xs = [] → v = .nil) (wn : ys = [] → w = .nil) : exportR Try.prog false false [t] h (.agg [v, w]) = some (netV xs ys) := by
  have hv : exportR Try.prog false false [t] h (.agg [v, w]) = (sealA h (.agg [v, w])).bind fun r => if isTup r.1 then none else some r.1 := by
    show (exportV Try.prog false false t h [] (.agg [v, w])).bind _ = _
    rw [exportV_plain]
    cases sealA h (.agg [v, w]) <;> rfl
  rw [hv]
  by_cases hx : xs = [] ∧ ys = []
  · obtain ⟨rfl, rfl⟩ := hx
    rw [vn rfl, wn rfl]
    rfl
  obtain ⟨g1, r1, n1, b1⟩ := sealA_Own o
  have q1 : Own (e1 LI) 1 g1 w ys := by
    rcases q with q | ⟨id, e, hi, hc⟩
    · exact .inl q
    · refine .inr ⟨id, e, by omega, ?_⟩
      rw [b1 id fun id' off n sz' e' => (d _ _ _ _ _ _ _ _ e' e).symm]; exact hc
  obtain ⟨g2, r2, _, _⟩ := sealA_Own q1
  have s1 : sealV h v = some (LLI xs, g1) := by rcases o with ⟨rfl, rfl⟩ | ⟨id, rfl, _⟩ <;> exact r1
  have s2 : sealV g1 w = some (LLI ys, g2) := by rcases q with ⟨rfl, rfl⟩ | ⟨id, rfl, _⟩ <;> exact r2
  have sc : sealCells h [v, w] = some ([LLI xs, LLI ys], g2) := by simp only [sealCells, s1, s2, Option.bind_some, Option.map_some]
  have hp : (AV.agg [v, w]).isPure = false := by
    rcases o with ⟨rfl, hxs⟩ | ⟨id, rfl, _⟩
    · rcases q with ⟨rfl, hys⟩ | ⟨id, rfl, _⟩
      · exact absurd ⟨hxs, hys⟩ hx
      · rfl
    · rfl
  have : sealA h (.agg [v, w]) = some (.agg [LLI xs, LLI ys], g2) := by
    simp only [sealA, hp, sc, Option.map_some]
    rfl
  rw [this, netV, if_neg hx]
  rfl

theorem rows_len (a : List (List Int)) (i : Nat) : ((List.range i).map (tableRow a)).length = i := by simp
/-- One row more, whatever holds the rows. -/
structure App (h : Hp) (v : AV) (a : List (List Int)) (i : Nat) : Prop where
  own : Own (e1 LI) 1 h v ((List.range i).map (tableRow a))
  nil : i = 0 → v = .nil
theorem App.isNil {v : AV} {a : List (List Int)} {i : Nat} (p : App h v a i) : (List.range i).map (tableRow a) = [] → v = .nil := fun e => p.nil (by
  have := congrArg List.length e
  simpa using this)
theorem App.step {v : AV} {a : List (List Int)} {i : Nat} (p : App h v a i) (hi : i < 12) : appB Try.prog h (some (.slice 25)) true v (.lst [[LI (tableRow a i)]]) =
    some (appV h ((List.range (i + 1)).map (tableRow a)).length 1, appH h v (((List.range (i + 1)).map (tableRow a)).flatMap (e1 LI))) := by
  have := app_one (P := Try.prog) p.own 25 24 .nil (tableRow a i) isz25 ibytes25 izero25 rfl (by simp; omega) (by simp; omega)
  rw [← rows_snoc]
  exact this
theorem App.next (h : Hp) (v : AV) (a : List (List Int)) (i : Nat) : App (appH h v (((List.range (i + 1)).map (tableRow a)).flatMap (e1 LI))) (appV h ((List.range (i + 1)).map (tableRow a)).length 1) a (i + 1) :=
  ⟨Own.app _ _ _, fun h => by omega⟩

theorem store_fst {v x y : AV} {id : Nat} (hv : v.isCell = true) : storeC h id 0 1 (some (.cells false false [x, y])) v.cells = some (.skp, h.put id (some (.cells false false [v, y]))) := by
  have hcs : v.cells = [v] := by cases v <;> first | rfl | (simp [AV.isCell] at hv)
  rw [hcs]; simp [storeC, hv, setL]
theorem store_snd {v x y : AV} {id : Nat} (hv : v.isCell = true) : storeC h id 1 1 (some (.cells false false [x, y])) v.cells = some (.skp, h.put id (some (.cells false false [x, v]))) := by
  have hcs : v.cells = [v] := by cases v <;> first | rfl | (simp [AV.isCell] at hv)
  rw [hcs]; simp [storeC, hv, setL]

theorem f16_con (p t : List (List Int)) (hp : okLL p) (ht : okLL t) : Con Try.prog cfg 16 [.agg [LLI p, LLI t]] (netV (tableM p) (tableM t)) := by
  have ml : maxLen = 9223372036854775807 := by decide
  have hpl := hp.1
  have htl := ht.1
  refine Con_intro Try.func16 rfl ok16 (Nat.le_of_ble_eq_true rfl) rfl ?_
  simp only [Try.f16, Option.getD_some, initSt1]
  simp (disch := first | (simp only [go_sem, Bool.and_self, eq_self]; done) | omega | (simp only [List.length_cons, List.length_nil]; omega)) only [go_sem, ↓reduceIte, Nat.reduceEqDiff, Nat.reduceAdd, Nat.reduceMul, Nat.reduceSub, Int.reduceToNat, Nat.reduceBEq, List.size_toArray, List.length_cons, List.length_nil, Bool.false_and, Bool.true_and, Bool.or_false, Bool.false_or, Bool.and_false, Bool.and_true]
  refine WP_cut (fun st h => st 1 = .ptr 0 0 ∧ st 2 = .ptr 1 0 ∧ st 3 = .ptr 2 0 ∧ 3 ≤ h.nx ∧ h.bl 0 = some (.cells false false [LLI p, LLI t]) ∧ h.bl 1 = some (.cells false false [.nil, .nil]) ∧ ∃ v, h.bl 2 = some (.cells false false [v, .nil]) ∧ App h v p (min p.length 12)) ?_ ?_
  · refine WP_for 4 (min p.length 12) (fun i st h => st 1 = .ptr 0 0 ∧ st 2 = .ptr 1 0 ∧ st 3 = .ptr 2 0 ∧ 3 ≤ h.nx ∧ h.bl 0 = some (.cells false false [LLI p, LLI t]) ∧ h.bl 1 = some (.cells false false [.nil, .nil]) ∧ ∃ v, h.bl 2 = some (.cells false false [v, .nil]) ∧ App h v p i) (by simp (disch := first | (simp only [go_sem, Bool.and_self, eq_self]; done) | omega | (simp only [List.length_cons, List.length_nil]; omega)) only [go_sem, ↓reduceIte, Nat.reduceEqDiff, Nat.reduceAdd, Nat.reduceMul, Nat.reduceSub, Int.reduceToNat, Nat.reduceBEq, List.size_toArray, List.length_cons, List.length_nil, Bool.false_and, Bool.true_and, Bool.or_false, Bool.false_or, Bool.and_false, Bool.and_true]) ⟨by simp (disch := first | (simp only [go_sem, Bool.and_self, eq_self]; done) | omega | (simp only [List.length_cons, List.length_nil]; omega)) only [go_sem, ↓reduceIte, Nat.reduceEqDiff, Nat.reduceAdd, Nat.reduceMul, Nat.reduceSub, Int.reduceToNat, Nat.reduceBEq, List.size_toArray, List.length_cons, List.length_nil, Bool.false_and, Bool.true_and, Bool.or_false, Bool.false_or, Bool.and_false, Bool.and_true], by simp (disch := first | (simp only [go_sem, Bool.and_self, eq_self]; done) | omega | (simp only [List.length_cons, List.length_nil]; omega)) only [go_sem, ↓reduceIte, Nat.reduceEqDiff, Nat.reduceAdd, Nat.reduceMul, Nat.reduceSub, Int.reduceToNat, Nat.reduceBEq, List.size_toArray, List.length_cons, List.length_nil, Bool.false_and, Bool.true_and, Bool.or_false, Bool.false_or, Bool.and_false, Bool.and_true], by simp (disch := first | (simp only [go_sem, Bool.and_self, eq_self]; done) | omega | (simp only [List.length_cons, List.length_nil]; omega)) only [go_sem, ↓reduceIte, Nat.reduceEqDiff, Nat.reduceAdd, Nat.reduceMul, Nat.reduceSub, Int.reduceToNat, Nat.reduceBEq, List.size_toArray, List.length_cons, List.length_nil, Bool.false_and, Bool.true_and, Bool.or_false, Bool.false_or, Bool.and_false, Bool.and_true], by simp (disch := first | (simp only [go_sem, Bool.and_self, eq_self]; done) | omega | (simp only [List.length_cons, List.length_nil]; omega)) only [go_sem, ↓reduceIte, Nat.reduceEqDiff, Nat.reduceAdd, Nat.reduceMul, Nat.reduceSub, Int.reduceToNat, Nat.reduceBEq, List.size_toArray, List.length_cons, List.length_nil, Bool.false_and, Bool.true_and, Bool.or_false, Bool.false_or, Bool.and_false, Bool.and_true]; decide, by simp (disch := first | (simp only [go_sem, Bool.and_self, eq_self]; done) | omega | (simp only [List.length_cons, List.length_nil]; omega)) only [go_sem, ↓reduceIte, Nat.reduceEqDiff, Nat.reduceAdd, Nat.reduceMul, Nat.reduceSub, Int.reduceToNat, Nat.reduceBEq, List.size_toArray, List.length_cons, List.length_nil, Bool.false_and, Bool.true_and, Bool.or_false, Bool.false_or, Bool.and_false, Bool.and_true], by simp (disch := first | (simp only [go_sem, Bool.and_self, eq_self]; done) | omega | (simp only [List.length_cons, List.length_nil]; omega)) only [go_sem, ↓reduceIte, Nat.reduceEqDiff, Nat.reduceAdd, Nat.reduceMul, Nat.reduceSub, Int.reduceToNat, Nat.reduceBEq, List.size_toArray, List.length_cons, List.length_nil, Bool.false_and, Bool.true_and, Bool.or_false, Bool.false_or, Bool.and_false, Bool.and_true], .nil, by simp (disch := first | (simp only [go_sem, Bool.and_self, eq_self]; done) | omega | (simp only [List.length_cons, List.length_nil]; omega)) only [go_sem, ↓reduceIte, Nat.reduceEqDiff, Nat.reduceAdd, Nat.reduceMul, Nat.reduceSub, Int.reduceToNat, Nat.reduceBEq, List.size_toArray, List.length_cons, List.length_nil, Bool.false_and, Bool.true_and, Bool.or_false, Bool.false_or, Bool.and_false, Bool.and_true], .inl ⟨rfl, rfl⟩, fun _ => rfl⟩ ?_
    rintro i st h hi s4 ⟨s1, s2, s3, bn, b0, b1, v, b2, ap⟩
    by_cases hlt : i < p.length
    case neg =>
      have hii : min p.length 12 = i := by omega
      simp (disch := first | (simp only [go_sem, Bool.and_self, eq_self]; done) | omega | (simp only [List.length_cons, List.length_nil]; omega)) only [go_sem, ↓reduceIte, Nat.reduceEqDiff, Nat.reduceAdd, Nat.reduceMul, Nat.reduceSub, Int.reduceToNat, Nat.reduceBEq, List.size_toArray, List.length_cons, List.length_nil, Bool.false_and, Bool.true_and, Bool.or_false, Bool.false_or, Bool.and_false, Bool.and_true, s1, s2, s3, s4, b0, hlt]
      exact ⟨bn, b1, v, b2, hii ▸ ap⟩
    by_cases h12 : (i : Int) < 12
    case neg =>
      have hii : min p.length 12 = i := by omega
      simp (disch := first | (simp only [go_sem, Bool.and_self, eq_self]; done) | omega | (simp only [List.length_cons, List.length_nil]; omega)) only [go_sem, ↓reduceIte, Nat.reduceEqDiff, Nat.reduceAdd, Nat.reduceMul, Nat.reduceSub, Int.reduceToNat, Nat.reduceBEq, List.size_toArray, List.length_cons, List.length_nil, Bool.false_and, Bool.true_and, Bool.or_false, Bool.false_or, Bool.and_false, Bool.and_true, s1, s2, s3, s4, b0, hlt, h12]
      exact ⟨bn, b1, v, b2, hii ▸ ap⟩
    have kl := fun h h' K => k17 (h := h) (h' := h') (K := K) (nth p i) (hp.2 _ (nth_mem hlt))
    have hrow : listM (nth p i) = tableRow p i := rfl
    have hse : sealA h (LI (tableRow p i)) = some (LI (tableRow p i), h) := by simp (disch := first | (simp only [go_sem, Bool.and_self, eq_self]; done) | omega | (simp only [List.length_cons, List.length_nil]; omega)) only [go_sem, ↓reduceIte, Nat.reduceEqDiff, Nat.reduceAdd, Nat.reduceMul, Nat.reduceSub, Int.reduceToNat, Nat.reduceBEq, List.size_toArray, List.length_cons, List.length_nil, Bool.false_and, Bool.true_and, Bool.or_false, Bool.false_or, Bool.and_false, Bool.and_true]
    have hbs := bsB_one (P := Try.prog) 25 (LI (tableRow p i)) (LI (tableRow p i)) .nil h isz25 izero25 rfl rfl rfl hse rfl rfl (pure_L _)
    have happ := ap.step (by omega)
    have nx := App.next h v p i
    have c0 := (appH_bl h v (((List.range (i + 1)).map (tableRow p)).flatMap (e1 LI)) 0 (by omega) (own_ne ap.own b0)).trans b0
    have c1 := (appH_bl h v (((List.range (i + 1)).map (tableRow p)).flatMap (e1 LI)) 1 (by omega) (own_ne ap.own b1)).trans b1
    have c2 := (appH_bl h v (((List.range (i + 1)).map (tableRow p)).flatMap (e1 LI)) 2 (by omega) (own_ne ap.own b2)).trans b2
    have cn := appH_nx h v (((List.range (i + 1)).map (tableRow p)).flatMap (e1 LI))
    generalize appH h v (((List.range (i + 1)).map (tableRow p)).flatMap (e1 LI)) = G at happ nx c0 c1 c2 cn
    generalize appV h ((List.range (i + 1)).map (tableRow p)).length 1 = V at happ nx
    have hV := own_cell nx.own
    have hst : storeC G 2 0 1 (some (.cells false false [v, .nil])) V.cells = some (.skp, G.put 2 (some (.cells false false [V, .nil]))) := store_fst hV
    simp (disch := first | (simp only [go_sem, Bool.and_self, eq_self]; done) | omega | (simp only [List.length_cons, List.length_nil]; omega)) only [go_sem, ↓reduceIte, Nat.reduceEqDiff, Nat.reduceAdd, Nat.reduceMul, Nat.reduceSub, Int.reduceToNat, Nat.reduceBEq, List.size_toArray, List.length_cons, List.length_nil, Bool.false_and, Bool.true_and, Bool.or_false, Bool.false_or, Bool.and_false, Bool.and_true, s1, s2, s3, s4, b0, b1, b2, hlt, h12, kl, hrow, hbs, happ, c0, c1, c2, hst]
    rw [ForK_normal]
    refine ⟨by omega, by simp (disch := first | (simp only [go_sem, Bool.and_self, eq_self]; done) | omega | (simp only [List.length_cons, List.length_nil]; omega)) only [go_sem, ↓reduceIte, Nat.reduceEqDiff, Nat.reduceAdd, Nat.reduceMul, Nat.reduceSub, Int.reduceToNat, Nat.reduceBEq, List.size_toArray, List.length_cons, List.length_nil, Bool.false_and, Bool.true_and, Bool.or_false, Bool.false_or, Bool.and_false, Bool.and_true, s4], by simp (disch := first | (simp only [go_sem, Bool.and_self, eq_self]; done) | omega | (simp only [List.length_cons, List.length_nil]; omega)) only [go_sem, ↓reduceIte, Nat.reduceEqDiff, Nat.reduceAdd, Nat.reduceMul, Nat.reduceSub, Int.reduceToNat, Nat.reduceBEq, List.size_toArray, List.length_cons, List.length_nil, Bool.false_and, Bool.true_and, Bool.or_false, Bool.false_or, Bool.and_false, Bool.and_true, s1], by simp (disch := first | (simp only [go_sem, Bool.and_self, eq_self]; done) | omega | (simp only [List.length_cons, List.length_nil]; omega)) only [go_sem, ↓reduceIte, Nat.reduceEqDiff, Nat.reduceAdd, Nat.reduceMul, Nat.reduceSub, Int.reduceToNat, Nat.reduceBEq, List.size_toArray, List.length_cons, List.length_nil, Bool.false_and, Bool.true_and, Bool.or_false, Bool.false_or, Bool.and_false, Bool.and_true, s2], by simp (disch := first | (simp only [go_sem, Bool.and_self, eq_self]; done) | omega | (simp only [List.length_cons, List.length_nil]; omega)) only [go_sem, ↓reduceIte, Nat.reduceEqDiff, Nat.reduceAdd, Nat.reduceMul, Nat.reduceSub, Int.reduceToNat, Nat.reduceBEq, List.size_toArray, List.length_cons, List.length_nil, Bool.false_and, Bool.true_and, Bool.or_false, Bool.false_or, Bool.and_false, Bool.and_true, s3], ?_, by simp (disch := first | (simp only [go_sem, Bool.and_self, eq_self]; done) | omega | (simp only [List.length_cons, List.length_nil]; omega)) only [go_sem, ↓reduceIte, Nat.reduceEqDiff, Nat.reduceAdd, Nat.reduceMul, Nat.reduceSub, Int.reduceToNat, Nat.reduceBEq, List.size_toArray, List.length_cons, List.length_nil, Bool.false_and, Bool.true_and, Bool.or_false, Bool.false_or, Bool.and_false, Bool.and_true, c0], by simp (disch := first | (simp only [go_sem, Bool.and_self, eq_self]; done) | omega | (simp only [List.length_cons, List.length_nil]; omega)) only [go_sem, ↓reduceIte, Nat.reduceEqDiff, Nat.reduceAdd, Nat.reduceMul, Nat.reduceSub, Int.reduceToNat, Nat.reduceBEq, List.size_toArray, List.length_cons, List.length_nil, Bool.false_and, Bool.true_and, Bool.or_false, Bool.false_or, Bool.and_false, Bool.and_true, c1], V, by simp (disch := first | (simp only [go_sem, Bool.and_self, eq_self]; done) | omega | (simp only [List.length_cons, List.length_nil]; omega)) only [go_sem, ↓reduceIte, Nat.reduceEqDiff, Nat.reduceAdd, Nat.reduceMul, Nat.reduceSub, Int.reduceToNat, Nat.reduceBEq, List.size_toArray, List.length_cons, List.length_nil, Bool.false_and, Bool.true_and, Bool.or_false, Bool.false_or, Bool.and_false, Bool.and_true], own_put nx.own c2 _, fun h => by omega⟩
    rw [put_nx, cn]; omega
  rintro st h ⟨s1, s2, s3, bn, b0, b1, v, b2, ap⟩
  simp (disch := first | (simp only [go_sem, Bool.and_self, eq_self]; done) | omega | (simp only [List.length_cons, List.length_nil]; omega)) only [go_sem, ↓reduceIte, Nat.reduceEqDiff, Nat.reduceAdd, Nat.reduceMul, Nat.reduceSub, Int.reduceToNat, Nat.reduceBEq, List.size_toArray, List.length_cons, List.length_nil, Bool.false_and, Bool.true_and, Bool.or_false, Bool.false_or, Bool.and_false, Bool.and_true, s1, s2, s3]
  refine WP_cut (fun st h => st 1 = .ptr 0 0 ∧ st 2 = .ptr 1 0 ∧ st 3 = .ptr 2 0 ∧ 3 ≤ h.nx ∧ h.bl 0 = some (.cells false false [LLI p, LLI t]) ∧ h.bl 1 = some (.cells false false [.nil, .nil]) ∧ ∃ v w, h.bl 2 = some (.cells false false [v, w]) ∧ App h v p (min p.length 12) ∧ App h w t (min t.length 12) ∧ Dis v w) ?_ ?_
  · refine WP_for 6 (min t.length 12) (fun i st h => st 1 = .ptr 0 0 ∧ st 2 = .ptr 1 0 ∧ st 3 = .ptr 2 0 ∧ 3 ≤ h.nx ∧ h.bl 0 = some (.cells false false [LLI p, LLI t]) ∧ h.bl 1 = some (.cells false false [.nil, .nil]) ∧ ∃ v w, h.bl 2 = some (.cells false false [v, w]) ∧ App h v p (min p.length 12) ∧ App h w t i ∧ Dis v w) (by simp (disch := first | (simp only [go_sem, Bool.and_self, eq_self]; done) | omega | (simp only [List.length_cons, List.length_nil]; omega)) only [go_sem, ↓reduceIte, Nat.reduceEqDiff, Nat.reduceAdd, Nat.reduceMul, Nat.reduceSub, Int.reduceToNat, Nat.reduceBEq, List.size_toArray, List.length_cons, List.length_nil, Bool.false_and, Bool.true_and, Bool.or_false, Bool.false_or, Bool.and_false, Bool.and_true]) ⟨by simp (disch := first | (simp only [go_sem, Bool.and_self, eq_self]; done) | omega | (simp only [List.length_cons, List.length_nil]; omega)) only [go_sem, ↓reduceIte, Nat.reduceEqDiff, Nat.reduceAdd, Nat.reduceMul, Nat.reduceSub, Int.reduceToNat, Nat.reduceBEq, List.size_toArray, List.length_cons, List.length_nil, Bool.false_and, Bool.true_and, Bool.or_false, Bool.false_or, Bool.and_false, Bool.and_true, s1], by simp (disch := first | (simp only [go_sem, Bool.and_self, eq_self]; done) | omega | (simp only [List.length_cons, List.length_nil]; omega)) only [go_sem, ↓reduceIte, Nat.reduceEqDiff, Nat.reduceAdd, Nat.reduceMul, Nat.reduceSub, Int.reduceToNat, Nat.reduceBEq, List.size_toArray, List.length_cons, List.length_nil, Bool.false_and, Bool.true_and, Bool.or_false, Bool.false_or, Bool.and_false, Bool.and_true, s2], by simp (disch := first | (simp only [go_sem, Bool.and_self, eq_self]; done) | omega | (simp only [List.length_cons, List.length_nil]; omega)) only [go_sem, ↓reduceIte, Nat.reduceEqDiff, Nat.reduceAdd, Nat.reduceMul, Nat.reduceSub, Int.reduceToNat, Nat.reduceBEq, List.size_toArray, List.length_cons, List.length_nil, Bool.false_and, Bool.true_and, Bool.or_false, Bool.false_or, Bool.and_false, Bool.and_true, s3], bn, by simp (disch := first | (simp only [go_sem, Bool.and_self, eq_self]; done) | omega | (simp only [List.length_cons, List.length_nil]; omega)) only [go_sem, ↓reduceIte, Nat.reduceEqDiff, Nat.reduceAdd, Nat.reduceMul, Nat.reduceSub, Int.reduceToNat, Nat.reduceBEq, List.size_toArray, List.length_cons, List.length_nil, Bool.false_and, Bool.true_and, Bool.or_false, Bool.false_or, Bool.and_false, Bool.and_true, b0], by simp (disch := first | (simp only [go_sem, Bool.and_self, eq_self]; done) | omega | (simp only [List.length_cons, List.length_nil]; omega)) only [go_sem, ↓reduceIte, Nat.reduceEqDiff, Nat.reduceAdd, Nat.reduceMul, Nat.reduceSub, Int.reduceToNat, Nat.reduceBEq, List.size_toArray, List.length_cons, List.length_nil, Bool.false_and, Bool.true_and, Bool.or_false, Bool.false_or, Bool.and_false, Bool.and_true, b1], v, .nil, by simp (disch := first | (simp only [go_sem, Bool.and_self, eq_self]; done) | omega | (simp only [List.length_cons, List.length_nil]; omega)) only [go_sem, ↓reduceIte, Nat.reduceEqDiff, Nat.reduceAdd, Nat.reduceMul, Nat.reduceSub, Int.reduceToNat, Nat.reduceBEq, List.size_toArray, List.length_cons, List.length_nil, Bool.false_and, Bool.true_and, Bool.or_false, Bool.false_or, Bool.and_false, Bool.and_true, b2], ap, ⟨.inl ⟨rfl, rfl⟩, fun _ => rfl⟩, Dis.nil_r _⟩ ?_
    rintro i st h hi s6 ⟨s1, s2, s3, bn, b0, b1, v, w, b2, ap, aw, d⟩
    by_cases hlt : i < t.length
    case neg =>
      have hii : min t.length 12 = i := by omega
      simp (disch := first | (simp only [go_sem, Bool.and_self, eq_self]; done) | omega | (simp only [List.length_cons, List.length_nil]; omega)) only [go_sem, ↓reduceIte, Nat.reduceEqDiff, Nat.reduceAdd, Nat.reduceMul, Nat.reduceSub, Int.reduceToNat, Nat.reduceBEq, List.size_toArray, List.length_cons, List.length_nil, Bool.false_and, Bool.true_and, Bool.or_false, Bool.false_or, Bool.and_false, Bool.and_true, s1, s2, s3, s6, b0, hlt]
      exact ⟨bn, b1, v, w, b2, ap, hii ▸ aw, d⟩
    by_cases h12 : (i : Int) < 12
    case neg =>
      have hii : min t.length 12 = i := by omega
      simp (disch := first | (simp only [go_sem, Bool.and_self, eq_self]; done) | omega | (simp only [List.length_cons, List.length_nil]; omega)) only [go_sem, ↓reduceIte, Nat.reduceEqDiff, Nat.reduceAdd, Nat.reduceMul, Nat.reduceSub, Int.reduceToNat, Nat.reduceBEq, List.size_toArray, List.length_cons, List.length_nil, Bool.false_and, Bool.true_and, Bool.or_false, Bool.false_or, Bool.and_false, Bool.and_true, s1, s2, s3, s6, b0, hlt, h12]
      exact ⟨bn, b1, v, w, b2, ap, hii ▸ aw, d⟩
    have kl := fun h h' K => k17 (h := h) (h' := h') (K := K) (nth t i) (ht.2 _ (nth_mem hlt))
    have hrow : listM (nth t i) = tableRow t i := rfl
    have hse : sealA h (LI (tableRow t i)) = some (LI (tableRow t i), h) := by simp (disch := first | (simp only [go_sem, Bool.and_self, eq_self]; done) | omega | (simp only [List.length_cons, List.length_nil]; omega)) only [go_sem, ↓reduceIte, Nat.reduceEqDiff, Nat.reduceAdd, Nat.reduceMul, Nat.reduceSub, Int.reduceToNat, Nat.reduceBEq, List.size_toArray, List.length_cons, List.length_nil, Bool.false_and, Bool.true_and, Bool.or_false, Bool.false_or, Bool.and_false, Bool.and_true]
    have hbs := bsB_one (P := Try.prog) 25 (LI (tableRow t i)) (LI (tableRow t i)) .nil h isz25 izero25 rfl rfl rfl hse rfl rfl (pure_L _)
    have happ := aw.step (by omega)
    have nx := App.next h w t i
    have kp : Own (e1 LI) 1 (appH h w (((List.range (i + 1)).map (tableRow t)).flatMap (e1 LI))) v _ := Own.keep ap.own d.symm _
    have dd := (Own.dis (sz := 1) ap.own ((List.range (i + 1)).map (tableRow t)).length 1).symm
    have c0 := (appH_bl h w (((List.range (i + 1)).map (tableRow t)).flatMap (e1 LI)) 0 (by omega) (own_ne aw.own b0)).trans b0
    have c1 := (appH_bl h w (((List.range (i + 1)).map (tableRow t)).flatMap (e1 LI)) 1 (by omega) (own_ne aw.own b1)).trans b1
    have c2 := (appH_bl h w (((List.range (i + 1)).map (tableRow t)).flatMap (e1 LI)) 2 (by omega) (own_ne aw.own b2)).trans b2
    have cn := appH_nx h w (((List.range (i + 1)).map (tableRow t)).flatMap (e1 LI))
    generalize appH h w (((List.range (i + 1)).map (tableRow t)).flatMap (e1 LI)) = G at happ nx c0 c1 c2 cn kp
    generalize appV h ((List.range (i + 1)).map (tableRow t)).length 1 = V at happ nx dd
    have hV := own_cell nx.own
    have hst : storeC G 2 1 1 (some (.cells false false [v, w])) V.cells = some (.skp, G.put 2 (some (.cells false false [v, V]))) := store_snd hV
    simp (disch := first | (simp only [go_sem, Bool.and_self, eq_self]; done) | omega | (simp only [List.length_cons, List.length_nil]; omega)) only [go_sem, ↓reduceIte, Nat.reduceEqDiff, Nat.reduceAdd, Nat.reduceMul, Nat.reduceSub, Int.reduceToNat, Nat.reduceBEq, List.size_toArray, List.length_cons, List.length_nil, Bool.false_and, Bool.true_and, Bool.or_false, Bool.false_or, Bool.and_false, Bool.and_true, s1, s2, s3, s6, b0, b1, b2, hlt, h12, kl, hrow, hbs, happ, c0, c1, c2, hst]
    rw [ForK_normal]
    refine ⟨by omega, by simp (disch := first | (simp only [go_sem, Bool.and_self, eq_self]; done) | omega | (simp only [List.length_cons, List.length_nil]; omega)) only [go_sem, ↓reduceIte, Nat.reduceEqDiff, Nat.reduceAdd, Nat.reduceMul, Nat.reduceSub, Int.reduceToNat, Nat.reduceBEq, List.size_toArray, List.length_cons, List.length_nil, Bool.false_and, Bool.true_and, Bool.or_false, Bool.false_or, Bool.and_false, Bool.and_true, s6], by simp (disch := first | (simp only [go_sem, Bool.and_self, eq_self]; done) | omega | (simp only [List.length_cons, List.length_nil]; omega)) only [go_sem, ↓reduceIte, Nat.reduceEqDiff, Nat.reduceAdd, Nat.reduceMul, Nat.reduceSub, Int.reduceToNat, Nat.reduceBEq, List.size_toArray, List.length_cons, List.length_nil, Bool.false_and, Bool.true_and, Bool.or_false, Bool.false_or, Bool.and_false, Bool.and_true, s1], by simp (disch := first | (simp only [go_sem, Bool.and_self, eq_self]; done) | omega | (simp only [List.length_cons, List.length_nil]; omega)) only [go_sem, ↓reduceIte, Nat.reduceEqDiff, Nat.reduceAdd, Nat.reduceMul, Nat.reduceSub, Int.reduceToNat, Nat.reduceBEq, List.size_toArray, List.length_cons, List.length_nil, Bool.false_and, Bool.true_and, Bool.or_false, Bool.false_or, Bool.and_false, Bool.and_true, s2], by simp (disch := first | (simp only [go_sem, Bool.and_self, eq_self]; done) | omega | (simp only [List.length_cons, List.length_nil]; omega)) only [go_sem, ↓reduceIte, Nat.reduceEqDiff, Nat.reduceAdd, Nat.reduceMul, Nat.reduceSub, Int.reduceToNat, Nat.reduceBEq, List.size_toArray, List.length_cons, List.length_nil, Bool.false_and, Bool.true_and, Bool.or_false, Bool.false_or, Bool.and_false, Bool.and_true, s3], ?_, by simp (disch := first | (simp only [go_sem, Bool.and_self, eq_self]; done) | omega | (simp only [List.length_cons, List.length_nil]; omega)) only [go_sem, ↓reduceIte, Nat.reduceEqDiff, Nat.reduceAdd, Nat.reduceMul, Nat.reduceSub, Int.reduceToNat, Nat.reduceBEq, List.size_toArray, List.length_cons, List.length_nil, Bool.false_and, Bool.true_and, Bool.or_false, Bool.false_or, Bool.and_false, Bool.and_true, c0], by simp (disch := first | (simp only [go_sem, Bool.and_self, eq_self]; done) | omega | (simp only [List.length_cons, List.length_nil]; omega)) only [go_sem, ↓reduceIte, Nat.reduceEqDiff, Nat.reduceAdd, Nat.reduceMul, Nat.reduceSub, Int.reduceToNat, Nat.reduceBEq, List.size_toArray, List.length_cons, List.length_nil, Bool.false_and, Bool.true_and, Bool.or_false, Bool.false_or, Bool.and_false, Bool.and_true, c1], v, V, by simp (disch := first | (simp only [go_sem, Bool.and_self, eq_self]; done) | omega | (simp only [List.length_cons, List.length_nil]; omega)) only [go_sem, ↓reduceIte, Nat.reduceEqDiff, Nat.reduceAdd, Nat.reduceMul, Nat.reduceSub, Int.reduceToNat, Nat.reduceBEq, List.size_toArray, List.length_cons, List.length_nil, Bool.false_and, Bool.true_and, Bool.or_false, Bool.false_or, Bool.and_false, Bool.and_true], ⟨own_put kp c2 _, ap.nil⟩, ⟨own_put nx.own c2 _, fun h => by omega⟩, dd⟩
    rw [put_nx, cn]; omega
  · rintro st h ⟨s1, s2, s3, bn, b0, b1, v, w, b2, ap, aw, d⟩
    have hv := own_cell ap.own
    have hw := own_cell aw.own
    have o1 := own_put ap.own b1 (some (.cells false false [v, w]))
    have o2 := own_put aw.own b1 (some (.cells false false [v, w]))
    have hex := export_net 24 o1 o2 d ap.isNil aw.isNil
    have hm1 : (List.range (min p.length 12)).map (tableRow p) = tableM p := rfl
    have hm2 : (List.range (min t.length 12)).map (tableRow t) = tableM t := rfl
    rw [hm1, hm2] at hex
    simp (disch := first | (simp only [go_sem, Bool.and_self, eq_self]; done) | omega | (simp only [List.length_cons, List.length_nil]; omega)) only [go_sem, ↓reduceIte, Nat.reduceEqDiff, Nat.reduceAdd, Nat.reduceMul, Nat.reduceSub, Int.reduceToNat, Nat.reduceBEq, List.size_toArray, List.length_cons, List.length_nil, Bool.false_and, Bool.true_and, Bool.or_false, Bool.false_or, Bool.and_false, Bool.and_true, s1, s2, s3, bn, b0, b1, b2, hv, hw, hex]

end Go.Proofs.Ytpkakapbepkfdaa
