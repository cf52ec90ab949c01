/-
  tame: whatever chain goes in, a small true chain comes out.
  isBest; the values of a chain.
  The reference's Best: the plain law.
  The reference's Sound.
  The reference's Best.
  The chain laws' configuration: what best and awake answer is known.
  Lists compared; valid fractions; Best, Check.
  The reference's tests of values; Best, Check.
  'StopBest' answers true.
  What the values of a best rule obey, as fractions and as whole numbers over a common denominator.
  A configuration in which a copy of a chain is handed over whole; copies in it.
  A copy of a chain, handed over whole.
  A small chain, handed over whole.
  What scaling, and what raising pay or lowering cost, do to the values: plain Lean.
  The configuration of the laws that write into chains.
  A configuration in which values are handed over whole.
-/
import Derived.Test.YtgamcclfdkpcgaaL2M1
import Derived.Test.YtgamcclfdkpcgaaL2M2
set_option linter.unusedVariables false
set_option linter.unusedSimpArgs false
set_option maxRecDepth 10000
namespace Go.Proofs.Ytgamcclfdkpcgaa
open Go Go.Am

variable {h h' : Hp} {K : AV → Hp → Prop}

/-- The rows so far are true. -/
def goodR (n : Nat) (R : List (List Int)) (P C : List Int) (i : Nat) : Prop := (R.length = i ∧ P.length = i ∧ C.length = i) ∧ ∀ k, k < i → (nth R k).length = n ∧ (inB (nth P k) 0 1000 = true ∧ (inB (nth C k) 0 100 = true ∧ rowB (nth R k) = true))
theorem goodR.chB {n : Nat} {R : List (List Int)} {P C : List Int} (h : goodR n R P C n) (h1 : 1 ≤ n) (h6 : n ≤ 6) : chB R P C = true := by
  obtain ⟨⟨hr, hp, hc⟩, hk⟩ := h
  rw [Go.Proofs.Ytgamcclfdkpcgaa.chB, hr, hp, hc]
  have h1' : inB n 1 6 = true := by rw [inB, decide_eq_true (by omega), decide_eq_true (by omega)]; rfl
  rw [h1', decide_eq_true rfl]
  refine allR fun i hi => ?_
  obtain ⟨k1, k2, k3, k4⟩ := hk i hi
  rw [stB, hr, k1, k2, k3, k4, decide_eq_true rfl]; rfl
theorem goodR.snoc {n i : Nat} {R : List (List Int)} {P C : List Int} (h : goodR n R P C i) {r : List Int} {p c : Int} (hr : r.length = n) (hp : inB p 0 1000 = true) (hc : inB c 0 100 = true) (hb : rowB r = true) : goodR n (R ++ [r]) (P ++ [p]) (C ++ [c]) (i + 1) := by
  obtain ⟨⟨lr, lp, lc⟩, hk⟩ := h
  have nl : ∀ {α : Type} [Inhabited α] (l : List α) (x : α) (k : Nat), k < l.length → nth (l ++ [x]) k = nth l k := fun l x k hk => by rw [nth, List.getElem?_append_left hk]; rfl
  have ne : ∀ {α : Type} [Inhabited α] (l : List α) (x : α), nth (l ++ [x]) l.length = x := fun l x => by rw [nth, List.getElem?_append_right (Nat.le_refl _), Nat.sub_self]; rfl
  refine ⟨by simp [lr, lp, lc], fun k hki => ?_⟩
  by_cases e : k = i
  · subst e
    have e1 := ne R r; rw [lr] at e1
    have e2 := ne P p; rw [lp] at e2
    have e3 := ne C c; rw [lc] at e3
    rw [e1, e2, e3]
    exact ⟨hr, hp, hc, hb⟩
  · rw [nl R r k (by omega), nl P p k (by omega), nl C c k (by omega)]
    exact hk k (by omega)
theorem rowB_of {f : Nat → Int} {n : Nat} (h : ∀ k, k < n → 0 ≤ f k ∧ f k ≤ 4) (hs : sumN f n ≤ 4) : rowB ((List.range n).map f) = true := by
  have hl : ((List.range n).map f).length = n := by simp
  rw [rowB, hl]
  have h1 : (List.range n).all (fun j => inB (nth ((List.range n).map f) j) 0 4) = true := allR fun i hi => by
    rw [nth_map_range _ _ _ hi, inB, decide_eq_true (h i hi).1, decide_eq_true (h i hi).2]; rfl
  rw [h1, sumN_congr (g := f) fun j hj => nth_map_range _ _ _ hj, decide_eq_true hs]; rfl
/-- The row as it is filled: what is left, and zeros from j on. -/
def rowI (f : Nat → Int) (left : Int) (j : Nat) : Prop := 0 ≤ left ∧ left ≤ 4 ∧ sumN f j + left = 4 ∧ (∀ k, 0 ≤ f k ∧ f k ≤ 4) ∧ ∀ k, j ≤ k → f k = 0
theorem rowI.step {f : Nat → Int} {left x : Int} {j : Nat} (h : rowI f left j) (hx : 0 ≤ x ∧ x < 5) : rowI (setV f j (min left x)) (left - min left x) (j + 1) := by
  obtain ⟨h0, h4, hs, hf, hz⟩ := h
  have hsum : sumN (setV f j (min left x)) j = sumN f j := sumN_congr fun k hk => by rw [setV, if_neg (by omega)]
  refine ⟨by omega, by omega, ?_, fun k => ?_, fun k hk => ?_⟩
  · show sumN (setV f j (min left x)) j + setV f j (min left x) j + _ = 4
    rw [hsum, setV, if_pos rfl]; omega
  · unfold setV; split
    · omega
    · exact hf k
  · rw [setV, if_neg (by omega)]; exact hz k (by omega)
theorem rowI.sum {f : Nat → Int} {left : Int} {j n : Nat} (h : rowI f left j) (hj : j ≤ n) : sumN f n ≤ 4 := by
  obtain ⟨h0, h4, hs, hf, hz⟩ := h
  have : ∀ m, sumN f (j + m) = sumN f j := fun m => by
    induction m with
    | zero => rfl
    | succ m ih => show sumN f (j + m) + f (j + m) = _; rw [ih, hz _ (by omega)]; omega
  have := this (n - j)
  rw [Nat.add_sub_cancel' hj] at this
  omega

/-- A contract whose answer the walk itself finds. -/
def RetE (P : Program) (S : AV → Prop) (ow kn : Bool) (rs : List ResultVar) (ts : List TypeId) : Exit → St → Hp → Prop := fun x st h => ∃ r, S r ∧ RetK P ow kn rs ts r x st h
theorem Con_introE {P : Program} {cfg : Cfg} {S : AV → Prop} {f : FuncId} {fn : Func} {args : List AV} (hf : P.funcs[f]? = some fn) (hbody : fn.body.isSome = true) (hok : funcOk cfg fn (fn.body.getD .skip) = true) (hl : args.length ≤ fn.ntmps) (hext : cfg.ext f args = none)
    (hw : WP P cfg (fn.body.getD .skip) (initSt args) Hp.empty (RetE P S (cfg.own f) (cfg.keepNil f) fn.results.toList fn.resultTypes.toList)) : ∃ r, S r ∧ Con P cfg f args r := by
  obtain ⟨k, x, st', h', e, r, hs, hr⟩ := hw
  exact ⟨r, hs, Con_intro hf hbody hok hl hext ⟨k, x, st', h', e, hr⟩⟩
/-- The three lists that are being built. -/
def Tri (h : Hp) (n i : Nat) (v w u : AV) : Prop := ∃ R P C, Go.Am.Own (e1 LI) 1 h v R ∧ Go.Am.Own (e1 I) 1 h w P ∧ Go.Am.Own (e1 I) 1 h u C ∧ Dis v w ∧ Dis v u ∧ Dis w u ∧ goodR n R P C i

theorem app_step {α : Type} {f : α → List AV} {sz : Nat} {v : AV} {xs : List α} (o : Go.Am.Own f sz h v xs) (ys : List α) :
    (appH h v (ys.flatMap f)).nx = h.nx + 1 ∧ (∀ (i : Nat) (fz : Bool) (flat : List AV), h.bl i = some (.cells fz false flat) → i < h.nx → (appH h v (ys.flatMap f)).bl i = some (.cells fz false flat)) ∧
    Go.Am.Own f sz (appH h v (ys.flatMap f)) (appV h ys.length sz) ys ∧
    (∀ {β : Type} {g : β → List AV} {tz : Nat} {w : AV} {zs : List β}, Go.Am.Own g tz h w zs → Dis v w → Go.Am.Own g tz (appH h v (ys.flatMap f)) w zs ∧ Dis (appV h ys.length sz) w) := by
  refine ⟨appH_nx _ _ _, fun i fz flat hb hi => ?_, Own.app h v ys, fun ow d => ⟨ow.keep d _, ow.dis _ _⟩⟩
  rw [appH_bl _ _ _ _ hi fun id off n sz' e => ?_]
  · exact hb
  · rcases o with ⟨rfl, _⟩ | ⟨id', e', _, hc⟩
    · cases e
    · rw [e'] at e; cases e
      intro he; subst he
      rw [hb] at hc; cases hc

end Go.Proofs.Ytgamcclfdkpcgaa

set_option linter.unusedVariables false
set_option linter.unusedSimpArgs false
set_option maxRecDepth 10000
namespace Go.Proofs.Ytgamcclfdkpcgaa
open Go Go.Am

variable {h h' : Hp} {K : AV → Hp → Prop}

theorem rdP_absN {a b : Int} (hb : 0 < b) : -absI a ≤ (rdP a b).1 ∧ (rdP a b).1 ≤ absI a := by
  have hg := gcdI_pos (a := a) (b := b) (by omega)
  have := div_rng hg (gcdI_dvd a b).1
  rw [rdP_pos hb]
  exact this
theorem cmp_lt (p q : Int × Int) : decide (cmpP p q < 0) = decide (p.1 * q.2 < q.1 * p.2) := by
  unfold cmpP
  by_cases c1 : p.1 * q.2 < q.1 * p.2
  · rw [if_pos c1, decide_eq_true c1]; rfl
  · rw [if_neg c1, decide_eq_false c1]
    split <;> rfl
theorem mul_bd {a b A B : Int} (ha : -A ≤ a ∧ a ≤ A) (hb : -B ≤ b ∧ b ≤ B) : -(A * B) ≤ a * b ∧ a * b ≤ A * B := by
  refine absI_le.1 ?_
  rw [absI_mul]
  exact Int.mul_le_mul (absI_le.2 ha) (absI_le.2 hb) (absI_nonneg _) (by omega)

theorem f69_con {nx : List (List Int)} {pay cost : List Int} (C : okC nx pay cost) (x : Nat) (hs : sndP nx.length (wF nx) (ruleB x)) : Con Try.prog cfg 69 [chA nx pay cost, LP (valL nx pay cost x)] (.bool (supB nx.length (wF nx) (pF pay) (pF cost) x)) := by
  obtain ⟨n, hn⟩ : ∃ n, n = nx.length := ⟨_, rfl⟩
  have hn1 := C.n1
  have hn6 := C.n6
  have hlp := C.lp
  have hlc := C.lc
  have hal : ∀ g : Hp, allocB g (some (chA nx pay cost)) = some (.ptr g.nx 0, g.alloc (.cells false false [LLI nx, LI pay, LI cost])) := fun g => allocB_agg _ rfl
  obtain ⟨V, hV⟩ : ∃ V, V = VN nx.length (wF nx) (pF pay) (pF cost) (ruleB x) := ⟨_, rfl⟩
  obtain ⟨D, hD⟩ : ∃ D, D = DN nx.length (wF nx) (pF pay) (pF cost) (ruleB x) := ⟨_, rfl⟩
  have hDp : 0 < D := by rw [hD]; exact (vals_of C.chn hs (by omega)).pos
  have hDb : D ≤ 262144 := by have := DN_b C.chn hs; have := bE6 hn6; rw [hD]; exact Int.le_trans (DN_b C.chn hs) (bE6 hn6)
  have hVb : ∀ i, i < n → -3188646000 ≤ V i ∧ V i ≤ 3188646000 := fun i hi => by
    have h1 : -bC nx.length ≤ V i ∧ V i ≤ bC nx.length := by rw [hV]; exact VN_b C.chn hs (by omega)
    have := bC6 hn6
    omega
  have hvl : (valL nx pay cost x).length = n := by simp [valL, hn]
  have hvn : ∀ i, i < n → nth (valL nx pay cost x) i = rdP (V i) D := fun i hi => by
    rw [valL, nth_map_range _ _ _ (by omega), hV, hD]
  have hsup : supB nx.length (wF nx) (pF pay) (pF cost) x = true ↔ ∀ i, i < n → nth pay i * D ≤ V i ∧ sumN (fun j => nth (nth nx i) j * V j) n - 4 * nth cost i * D ≤ 4 * V i := by
    rw [supB_iff, hV, hD, hn]; rfl
  generalize supB nx.length (wF nx) (pF pay) (pF cost) x = b at *
  have hno : ∀ i, i < n → ¬ (nth pay i * D ≤ V i ∧ sumN (fun j => nth (nth nx i) j * V j) n - 4 * nth cost i * D ≤ 4 * V i) → b = false := fun i hi h => by
    cases b with
    | false => rfl
    | true => exact (h (hsup.1 rfl i hi)).elim
  refine Con_intro Try.func69 rfl ok69 (Nat.le_of_ble_eq_true rfl) rfl ?_
  simp only [Try.f69, Option.getD_some, initSt2]
  simp (disch := first | (simp only [go_sem, gb0, eq_self]; done) | omega | (simp only [gl1, gl2]; omega)) only [go_sem, ↓reduceIte, Nat.reduceEqDiff, Nat.reduceAdd, Nat.reduceMul, Nat.reduceSub, Int.reduceToNat, Nat.reduceBEq, hal]
  refine WP_for 15 n (fun i st h => st 1 = LP (valL nx pay cost x) ∧ st 2 = .ptr 0 0 ∧ st 13 = LLI nx ∧ st 14 = I n ∧ h.nx = 1 ∧ h.bl 0 = some (.cells false false [LLI nx, LI pay, LI cost]) ∧ ∀ k, k < i → nth pay k * D ≤ V k ∧ sumN (fun j => nth (nth nx k) j * V j) n - 4 * nth cost k * D ≤ 4 * V k) (by simp (disch := first | (simp only [go_sem, gb0, eq_self]; done) | omega | (simp only [gl1, gl2]; omega)) only [go_sem, ↓reduceIte, Nat.reduceEqDiff, Nat.reduceAdd, Nat.reduceMul, Nat.reduceSub, Int.reduceToNat, Nat.reduceBEq])
    ⟨by simp (disch := first | (simp only [go_sem, gb0, eq_self]; done) | omega | (simp only [gl1, gl2]; omega)) only [go_sem, ↓reduceIte, Nat.reduceEqDiff, Nat.reduceAdd, Nat.reduceMul, Nat.reduceSub, Int.reduceToNat, Nat.reduceBEq], by simp (disch := first | (simp only [go_sem, gb0, eq_self]; done) | omega | (simp only [gl1, gl2]; omega)) only [go_sem, ↓reduceIte, Nat.reduceEqDiff, Nat.reduceAdd, Nat.reduceMul, Nat.reduceSub, Int.reduceToNat, Nat.reduceBEq], by simp (disch := first | (simp only [go_sem, gb0, eq_self]; done) | omega | (simp only [gl1, gl2]; omega)) only [go_sem, ↓reduceIte, Nat.reduceEqDiff, Nat.reduceAdd, Nat.reduceMul, Nat.reduceSub, Int.reduceToNat, Nat.reduceBEq], by simp (disch := first | (simp only [go_sem, gb0, eq_self]; done) | omega | (simp only [gl1, gl2]; omega)) only [go_sem, ↓reduceIte, Nat.reduceEqDiff, Nat.reduceAdd, Nat.reduceMul, Nat.reduceSub, Int.reduceToNat, Nat.reduceBEq, hn], by simp (disch := first | (simp only [go_sem, gb0, eq_self]; done) | omega | (simp only [gl1, gl2]; omega)) only [go_sem, ↓reduceIte, Nat.reduceEqDiff, Nat.reduceAdd, Nat.reduceMul, Nat.reduceSub, Int.reduceToNat, Nat.reduceBEq], by simp (disch := first | (simp only [go_sem, gb0, eq_self]; done) | omega | (simp only [gl1, gl2]; omega)) only [go_sem, ↓reduceIte, Nat.reduceEqDiff, Nat.reduceAdd, Nat.reduceMul, Nat.reduceSub, Int.reduceToNat, Nat.reduceBEq], fun k hk => by omega⟩ ?_
  rintro i st h hi s15 ⟨s1, s2, s13, s14, hnx, b0, hall⟩
  by_cases hlt : i < n
  case neg =>
    have hb : b = true := hsup.2 fun k hk => hall k (by omega)
    simp (disch := first | (simp only [go_sem, gb0, eq_self]; done) | omega | (simp only [gl1, gl2]; omega)) only [go_sem, ↓reduceIte, Nat.reduceEqDiff, Nat.reduceAdd, Nat.reduceMul, Nat.reduceSub, Int.reduceToNat, Nat.reduceBEq, s1, s2, s13, s14, s15, hlt, hb]
  have hi1 : i < nx.length := by omega
  have hi1' : (i : Int) < nx.length := by omega
  have hiv : i < (valL nx pay cost x).length := by omega
  have hiv' : (i : Int) < (valL nx pay cost x).length := by omega
  have hip : i < pay.length := by omega
  have hip' : (i : Int) < pay.length := by omega
  have hic : i < cost.length := by omega
  have hic' : (i : Int) < cost.length := by omega
  have hpb := C.pb hi1
  have hcb := C.cb hi1
  have hrow := C.row i hi1
  have hVi := hVb i hlt
  have vd := rdP_den (a := V i) hDp
  have vn := rdP_absN (a := V i) hDp
  have hvi := hvn i hlt
  have z0 : 0 < h.nx := by omega
  have hcmp : (rdP (V i) D).1 * 1 < nth pay i * (rdP (V i) D).2 ↔ V i < nth pay i * D := by
    have := lessP_rd (a := V i) (c := nth pay i) hDp (show (0 : Int) < 1 by decide)
    rw [rdP_one] at this
    unfold lessQ at this
    simp only [Int.mul_one] at this ⊢
    exact this
  have mb1 := mul_bd (a := nth pay i) (b := (rdP (V i) D).2) (A := 1000) (B := 262144) (by omega) (by omega)
  have habs : absI (V i) ≤ 3188646000 := absI_le.2 hVi
  have k52 := fun h h' K => ConW_num (h := h) (h' := h') (K := K) (f52_con (rdP (V i) D) (nth pay i, 1) (by simp only [big]; omega) (by simp only [big]; omega)) rfl
  by_cases hp : V i < nth pay i * D
  · have hb := hno i hlt (fun h => by omega)
    have hc : decide (cmpP (rdP (V i) D) (nth pay i, 1) < 0) = true := by rw [cmp_lt]; exact decide_eq_true (hcmp.2 hp)
    simp (disch := first | (simp only [go_sem, gb0, eq_self]; done) | omega | (simp only [gl1, gl2]; omega)) only [go_sem, ↓reduceIte, Nat.reduceEqDiff, Nat.reduceAdd, Nat.reduceMul, Nat.reduceSub, Int.reduceToNat, Nat.reduceBEq, s1, s2, s13, s14, s15, hlt, hi1, hi1', hiv, hiv', hip, hip', hvi, b0, z0, k52, hc, hb, List.drop_succ_cons]
  have hc : decide (cmpP (rdP (V i) D) (nth pay i, 1) < 0) = false := by rw [cmp_lt]; exact decide_eq_false fun h => hp (hcmp.1 h)
  simp (disch := first | (simp only [go_sem, gb0, eq_self]; done) | omega | (simp only [gl1, gl2]; omega)) only [go_sem, ↓reduceIte, Nat.reduceEqDiff, Nat.reduceAdd, Nat.reduceMul, Nat.reduceSub, Int.reduceToNat, Nat.reduceBEq, s1, s2, s13, s14, s15, hlt, hi1, hi1', hiv, hiv', hip, hip', hic, hic', hvi, b0, z0, k52, hc, List.drop_succ_cons]
  -- going on once
  obtain ⟨S, hS⟩ : ∃ S : Nat → Int, S = fun m => sumN (fun j => nth (nth nx i) j * V j) m - 4 * nth cost i * D := ⟨_, rfl⟩
  have hSb : ∀ m, m ≤ n → -80000000000 ≤ S m ∧ S m ≤ 80000000000 := fun m hm => by
    have h1 := sumN_bounds (f := fun j => nth (nth nx i) j * V j) (lo := -12754584000) (hi := 12754584000) (n := m) fun j hj => by
      have h2 := C.wb hi1 (show j < nx.length by omega)
      have h3 := hVb j (by omega)
      have := mul_bd (a := nth (nth nx i) j) (b := V j) (A := 4) (B := 3188646000) (by omega) (by omega)
      omega
    have h2 := mul_bd (a := 4 * nth cost i) (b := D) (A := 400) (B := 262144) (by omega) (by omega)
    have h3 : (m : Int) ≤ 6 := by omega
    rw [hS]
    show -80000000000 ≤ sumN (fun j => nth (nth nx i) j * V j) m - 4 * nth cost i * D ∧ sumN (fun j => nth (nth nx i) j * V j) m - 4 * nth cost i * D ≤ 80000000000
    omega
  have hS0 : rdP (S 0) D = (-4 * nth cost i, 1) := by
    have : S 0 = (-4 * nth cost i) * D := by rw [hS]; simp only [sumN]; grind
    rw [this]; exact rdP_whole _ hDp
  have hSs : ∀ m, S (m + 1) = S m + nth (nth nx i) m * V m := fun m => by rw [hS]; simp only [sumN]; omega
  have hSn : S n = sumN (fun j => nth (nth nx i) j * V j) n - 4 * nth cost i * D := by rw [hS]
  refine WP_cut (fun st h => st 1 = LP (valL nx pay cost x) ∧ st 2 = .ptr 0 0 ∧ st 5 = I i ∧ st 13 = LLI nx ∧ st 14 = I n ∧ st 15 = I i ∧ h.nx = 1 ∧ h.bl 0 = some (.cells false false [LLI nx, LI pay, LI cost]) ∧ st 7 = I (rdP (S n) D).1 ∧ st 8 = I (rdP (S n) D).2) ?_ ?_
  · refine WP_for 40 n (fun m st h => st 1 = LP (valL nx pay cost x) ∧ st 2 = .ptr 0 0 ∧ st 5 = I i ∧ st 13 = LLI nx ∧ st 14 = I n ∧ st 15 = I i ∧ st 38 = LI (nth nx i) ∧ st 39 = I n ∧ h.nx = 1 ∧ h.bl 0 = some (.cells false false [LLI nx, LI pay, LI cost]) ∧ st 7 = I (rdP (S m) D).1 ∧ st 8 = I (rdP (S m) D).2) (by simp (disch := first | (simp only [go_sem, gb0, eq_self]; done) | omega | (simp only [gl1, gl2]; omega)) only [go_sem, ↓reduceIte, Nat.reduceEqDiff, Nat.reduceAdd, Nat.reduceMul, Nat.reduceSub, Int.reduceToNat, Nat.reduceBEq])
      ⟨by simp (disch := first | (simp only [go_sem, gb0, eq_self]; done) | omega | (simp only [gl1, gl2]; omega)) only [go_sem, ↓reduceIte, Nat.reduceEqDiff, Nat.reduceAdd, Nat.reduceMul, Nat.reduceSub, Int.reduceToNat, Nat.reduceBEq, s1], by simp (disch := first | (simp only [go_sem, gb0, eq_self]; done) | omega | (simp only [gl1, gl2]; omega)) only [go_sem, ↓reduceIte, Nat.reduceEqDiff, Nat.reduceAdd, Nat.reduceMul, Nat.reduceSub, Int.reduceToNat, Nat.reduceBEq, s2], by simp (disch := first | (simp only [go_sem, gb0, eq_self]; done) | omega | (simp only [gl1, gl2]; omega)) only [go_sem, ↓reduceIte, Nat.reduceEqDiff, Nat.reduceAdd, Nat.reduceMul, Nat.reduceSub, Int.reduceToNat, Nat.reduceBEq], by simp (disch := first | (simp only [go_sem, gb0, eq_self]; done) | omega | (simp only [gl1, gl2]; omega)) only [go_sem, ↓reduceIte, Nat.reduceEqDiff, Nat.reduceAdd, Nat.reduceMul, Nat.reduceSub, Int.reduceToNat, Nat.reduceBEq, s13], by simp (disch := first | (simp only [go_sem, gb0, eq_self]; done) | omega | (simp only [gl1, gl2]; omega)) only [go_sem, ↓reduceIte, Nat.reduceEqDiff, Nat.reduceAdd, Nat.reduceMul, Nat.reduceSub, Int.reduceToNat, Nat.reduceBEq, s14], by simp (disch := first | (simp only [go_sem, gb0, eq_self]; done) | omega | (simp only [gl1, gl2]; omega)) only [go_sem, ↓reduceIte, Nat.reduceEqDiff, Nat.reduceAdd, Nat.reduceMul, Nat.reduceSub, Int.reduceToNat, Nat.reduceBEq, s15], by simp (disch := first | (simp only [go_sem, gb0, eq_self]; done) | omega | (simp only [gl1, gl2]; omega)) only [go_sem, ↓reduceIte, Nat.reduceEqDiff, Nat.reduceAdd, Nat.reduceMul, Nat.reduceSub, Int.reduceToNat, Nat.reduceBEq], by (simp (disch := first | (simp only [go_sem, gb0, eq_self]; done) | omega | (simp only [gl1, gl2]; omega)) only [go_sem, ↓reduceIte, Nat.reduceEqDiff, Nat.reduceAdd, Nat.reduceMul, Nat.reduceSub, Int.reduceToNat, Nat.reduceBEq]; rw [hrow, hn]), hnx, b0, by (rw [hS0]; simp (disch := first | (simp only [go_sem, gb0, eq_self]; done) | omega | (simp only [gl1, gl2]; omega)) only [go_sem, ↓reduceIte, Nat.reduceEqDiff, Nat.reduceAdd, Nat.reduceMul, Nat.reduceSub, Int.reduceToNat, Nat.reduceBEq]), by (rw [hS0]; simp (disch := first | (simp only [go_sem, gb0, eq_self]; done) | omega | (simp only [gl1, gl2]; omega)) only [go_sem, ↓reduceIte, Nat.reduceEqDiff, Nat.reduceAdd, Nat.reduceMul, Nat.reduceSub, Int.reduceToNat, Nat.reduceBEq])⟩ ?_
    rintro m st h hm s40 ⟨s1, s2, s5, s13, s14, s15, s38, s39, hnx, b0, s7, s8⟩
    by_cases hmn : m < n
    case neg =>
      have hme : m = n := by omega
      subst hme
      simp (disch := first | (simp only [go_sem, gb0, eq_self]; done) | omega | (simp only [gl1, gl2]; omega)) only [go_sem, ↓reduceIte, Nat.reduceEqDiff, Nat.reduceAdd, Nat.reduceMul, Nat.reduceSub, Int.reduceToNat, Nat.reduceBEq, s1, s2, s5, s13, s14, s15, s7, s8, s39, s40, hmn]
      exact ⟨hnx, b0⟩
    have hmr : m < (nth nx i).length := by omega
    have hmr' : (m : Int) < (nth nx i).length := by omega
    have hmv : m < (valL nx pay cost x).length := by omega
    have hmv' : (m : Int) < (valL nx pay cost x).length := by omega
    have hvm := hvn m hmn
    have hwb := C.wb hi1 (show m < nx.length by omega)
    have hVm := hVb m hmn
    have ud := rdP_den (a := V m) hDp
    have un := rdP_absN (a := V m) hDp
    have hau : absI (V m) ≤ 3188646000 := absI_le.2 hVm
    have sd := rdP_den (a := S m) hDp
    have sn := rdP_absN (a := S m) hDp
    have has : absI (S m) ≤ 80000000000 := absI_le.2 (hSb m (by omega))
    have v1 := rdP_val (a := V m) hDp
    have v2 := rdP_val (a := S m) hDp
    have hst := hSs m
    have key : rdP ((rdP (S m) D).1 * (rdP (V m) D).2 + nth (nth nx i) m * (rdP (V m) D).1 * (rdP (S m) D).2) ((rdP (S m) D).2 * (rdP (V m) D).2) = rdP (S (m + 1)) D := by
      refine rdP_cross (Int.mul_pos sd.1 ud.1) hDp ?_
      rw [hst]
      generalize rdP (S m) D = u at *
      generalize rdP (V m) D = v at *
      grind
    generalize hr' : rdP (S (m + 1)) D = r at *
    generalize rdP (S m) D = u at *
    generalize rdP (V m) D = v at *
    have w1 := mul_bd (a := u.1) (b := v.2) (A := 80000000000) (B := 262144) (by omega) (by omega)
    have w2 := mul_bd (a := nth (nth nx i) m) (b := v.1) (A := 4) (B := 3188646000) (by omega) (by omega)
    have w3 := mul_bd (a := nth (nth nx i) m * v.1) (b := u.2) (A := 12754584000) (B := 262144) (by omega) (by omega)
    have w4 : 0 < u.2 * v.2 := Int.mul_pos sd.1 ud.1
    have w5 := mul_bd (a := u.2) (b := v.2) (A := 262144) (B := 262144) (by omega) (by omega)
    obtain ⟨A, hA⟩ : ∃ A, A = u.1 * v.2 + nth (nth nx i) m * v.1 * u.2 := ⟨_, rfl⟩
    obtain ⟨B, hB⟩ : ∃ B, B = u.2 * v.2 := ⟨_, rfl⟩
    rw [← hA, ← hB] at key
    have hAb : -30000000000000000 ≤ A ∧ A ≤ 30000000000000000 := by rw [hA]; omega
    have hBb : 0 < B ∧ B ≤ 68719476736 := by rw [hB]; omega
    have kg := fun h h' K => k79 (h := h) (h' := h') (K := K) A B (by simp only [big]; omega) (by simp only [big]; omega)
    have hg := gcdI_pos (a := A) (b := B) (by omega)
    have t1 := tdiv_gcd_l A B
    have t2 := tdiv_gcd_r A B
    have r1 := div_rng hg (gcdI_dvd A B).1
    have r2 := div_rng hg (gcdI_dvd A B).2
    have kr1 : A / gcdI A B = r.1 := by rw [← key, rdP_pos hBb.1]
    have kr2 : B / gcdI A B = r.2 := by rw [← key, rdP_pos hBb.1]
    have g0 : ¬ gcdI A B = 0 := by omega
    rw [kr1] at t1 r1
    rw [kr2] at t2 r2
    simp (disch := first | (simp only [go_sem, gb0, eq_self]; done) | omega | (simp only [gl1, gl2]; omega)) only [go_sem, ↓reduceIte, Nat.reduceEqDiff, Nat.reduceAdd, Nat.reduceMul, Nat.reduceSub, Int.reduceToNat, Nat.reduceBEq, s1, s2, s5, s13, s14, s15, s7, s8, s38, s39, s40, hmn, hmr, hmr', hmv, hmv', hvm, ← hA, ← hB, kg, t1, t2, g0, List.drop_succ_cons]
    rw [ForK_normal]
    exact ⟨hmn, by simp (disch := first | (simp only [go_sem, gb0, eq_self]; done) | omega | (simp only [gl1, gl2]; omega)) only [go_sem, ↓reduceIte, Nat.reduceEqDiff, Nat.reduceAdd, Nat.reduceMul, Nat.reduceSub, Int.reduceToNat, Nat.reduceBEq, s40], by simp (disch := first | (simp only [go_sem, gb0, eq_self]; done) | omega | (simp only [gl1, gl2]; omega)) only [go_sem, ↓reduceIte, Nat.reduceEqDiff, Nat.reduceAdd, Nat.reduceMul, Nat.reduceSub, Int.reduceToNat, Nat.reduceBEq, s1], by simp (disch := first | (simp only [go_sem, gb0, eq_self]; done) | omega | (simp only [gl1, gl2]; omega)) only [go_sem, ↓reduceIte, Nat.reduceEqDiff, Nat.reduceAdd, Nat.reduceMul, Nat.reduceSub, Int.reduceToNat, Nat.reduceBEq, s2], by simp (disch := first | (simp only [go_sem, gb0, eq_self]; done) | omega | (simp only [gl1, gl2]; omega)) only [go_sem, ↓reduceIte, Nat.reduceEqDiff, Nat.reduceAdd, Nat.reduceMul, Nat.reduceSub, Int.reduceToNat, Nat.reduceBEq, s5], by simp (disch := first | (simp only [go_sem, gb0, eq_self]; done) | omega | (simp only [gl1, gl2]; omega)) only [go_sem, ↓reduceIte, Nat.reduceEqDiff, Nat.reduceAdd, Nat.reduceMul, Nat.reduceSub, Int.reduceToNat, Nat.reduceBEq, s13], by simp (disch := first | (simp only [go_sem, gb0, eq_self]; done) | omega | (simp only [gl1, gl2]; omega)) only [go_sem, ↓reduceIte, Nat.reduceEqDiff, Nat.reduceAdd, Nat.reduceMul, Nat.reduceSub, Int.reduceToNat, Nat.reduceBEq, s14], by simp (disch := first | (simp only [go_sem, gb0, eq_self]; done) | omega | (simp only [gl1, gl2]; omega)) only [go_sem, ↓reduceIte, Nat.reduceEqDiff, Nat.reduceAdd, Nat.reduceMul, Nat.reduceSub, Int.reduceToNat, Nat.reduceBEq, s15], by simp (disch := first | (simp only [go_sem, gb0, eq_self]; done) | omega | (simp only [gl1, gl2]; omega)) only [go_sem, ↓reduceIte, Nat.reduceEqDiff, Nat.reduceAdd, Nat.reduceMul, Nat.reduceSub, Int.reduceToNat, Nat.reduceBEq, s38], by simp (disch := first | (simp only [go_sem, gb0, eq_self]; done) | omega | (simp only [gl1, gl2]; omega)) only [go_sem, ↓reduceIte, Nat.reduceEqDiff, Nat.reduceAdd, Nat.reduceMul, Nat.reduceSub, Int.reduceToNat, Nat.reduceBEq, s39], hnx, b0, by (rw [hr']; simp (disch := first | (simp only [go_sem, gb0, eq_self]; done) | omega | (simp only [gl1, gl2]; omega)) only [go_sem, ↓reduceIte, Nat.reduceEqDiff, Nat.reduceAdd, Nat.reduceMul, Nat.reduceSub, Int.reduceToNat, Nat.reduceBEq]), by (rw [hr']; simp (disch := first | (simp only [go_sem, gb0, eq_self]; done) | omega | (simp only [gl1, gl2]; omega)) only [go_sem, ↓reduceIte, Nat.reduceEqDiff, Nat.reduceAdd, Nat.reduceMul, Nat.reduceSub, Int.reduceToNat, Nat.reduceBEq])⟩
  · rintro st h ⟨s1, s2, s5, s13, s14, s15, hnx, b0, s7, s8⟩
    have sd := rdP_den (a := S n) hDp
    have sn := rdP_absN (a := S n) hDp
    have has : absI (S n) ≤ 80000000000 := absI_le.2 (hSb n (by omega))
    have v2 := rdP_val (a := S n) hDp
    have key : rdP (rdP (S n) D).1 ((rdP (S n) D).2 * 4) = rdP (S n) (4 * D) := by
      refine rdP_cross (by omega) (by omega) ?_
      generalize rdP (S n) D = u at *
      grind
    have hcmp2 : (rdP (V i) D).1 * (rdP (S n) (4 * D)).2 < (rdP (S n) (4 * D)).1 * (rdP (V i) D).2 ↔ 4 * V i < S n := by
      have h1 := lessP_rd (a := V i) (c := S n) hDp (show 0 < 4 * D by omega)
      unfold lessQ at h1
      rw [h1]
      constructor
      · intro h2
        have e : V i * (4 * D) = 4 * V i * D := by grind
        rw [e] at h2
        exact Int.lt_of_mul_lt_mul_right h2 (Int.le_of_lt hDp)
      · intro h2
        have e : V i * (4 * D) = 4 * V i * D := by grind
        rw [e]
        exact Int.mul_lt_mul_of_pos_right h2 hDp
    have qd := rdP_den (a := S n) (show 0 < 4 * D by omega)
    have qn := rdP_absN (a := S n) (show 0 < 4 * D by omega)
    have kr := fun h h' K => k70 (h := h) (h' := h') (K := K) (rdP (S n) D).1 ((rdP (S n) D).2 * 4) (by simp only [big]; omega) (by simp only [big]; omega) (by omega)
    rw [key] at kr
    have z0 : 0 < h.nx := by omega
    have w1 := mul_bd (a := (rdP (V i) D).1) (b := (rdP (S n) (4 * D)).2) (A := 3188646000) (B := 1048576) (by omega) (by omega)
    have w2 := mul_bd (a := (rdP (S n) (4 * D)).1) (b := (rdP (V i) D).2) (A := 80000000000) (B := 262144) (by omega) (by omega)
    have k52b := fun h h' K => ConW_num (h := h) (h' := h') (K := K) (f52_con (rdP (V i) D) (rdP (S n) (4 * D)) (by simp only [big]; omega) (by simp only [big]; omega)) rfl
    by_cases hlow : 4 * V i < S n
    · have hb := hno i hlt (fun h => by rw [← hSn] at h; omega)
      have hc2 : decide (cmpP (rdP (V i) D) (rdP (S n) (4 * D)) < 0) = true := by rw [cmp_lt]; exact decide_eq_true (hcmp2.2 hlow)
      simp (disch := first | (simp only [go_sem, gb0, eq_self]; done) | omega | (simp only [gl1, gl2]; omega)) only [go_sem, ↓reduceIte, Nat.reduceEqDiff, Nat.reduceAdd, Nat.reduceMul, Nat.reduceSub, Int.reduceToNat, Nat.reduceBEq, s1, s2, s5, s13, s14, s15, s7, s8, hiv, hiv', hvi, kr, k52b, hc2, hb]
    · have hc2 : decide (cmpP (rdP (V i) D) (rdP (S n) (4 * D)) < 0) = false := by rw [cmp_lt]; exact decide_eq_false fun h => hlow (hcmp2.1 h)
      simp (disch := first | (simp only [go_sem, gb0, eq_self]; done) | omega | (simp only [gl1, gl2]; omega)) only [go_sem, ↓reduceIte, Nat.reduceEqDiff, Nat.reduceAdd, Nat.reduceMul, Nat.reduceSub, Int.reduceToNat, Nat.reduceBEq, s1, s2, s5, s13, s14, s15, s7, s8, hiv, hiv', hvi, kr, k52b, hc2]
      rw [ForK_normal]
      refine ⟨hlt, by simp (disch := first | (simp only [go_sem, gb0, eq_self]; done) | omega | (simp only [gl1, gl2]; omega)) only [go_sem, ↓reduceIte, Nat.reduceEqDiff, Nat.reduceAdd, Nat.reduceMul, Nat.reduceSub, Int.reduceToNat, Nat.reduceBEq, s15], by simp (disch := first | (simp only [go_sem, gb0, eq_self]; done) | omega | (simp only [gl1, gl2]; omega)) only [go_sem, ↓reduceIte, Nat.reduceEqDiff, Nat.reduceAdd, Nat.reduceMul, Nat.reduceSub, Int.reduceToNat, Nat.reduceBEq, s1], by simp (disch := first | (simp only [go_sem, gb0, eq_self]; done) | omega | (simp only [gl1, gl2]; omega)) only [go_sem, ↓reduceIte, Nat.reduceEqDiff, Nat.reduceAdd, Nat.reduceMul, Nat.reduceSub, Int.reduceToNat, Nat.reduceBEq, s2], by simp (disch := first | (simp only [go_sem, gb0, eq_self]; done) | omega | (simp only [gl1, gl2]; omega)) only [go_sem, ↓reduceIte, Nat.reduceEqDiff, Nat.reduceAdd, Nat.reduceMul, Nat.reduceSub, Int.reduceToNat, Nat.reduceBEq, s13], by simp (disch := first | (simp only [go_sem, gb0, eq_self]; done) | omega | (simp only [gl1, gl2]; omega)) only [go_sem, ↓reduceIte, Nat.reduceEqDiff, Nat.reduceAdd, Nat.reduceMul, Nat.reduceSub, Int.reduceToNat, Nat.reduceBEq, s14], hnx, b0, fun k hk => ?_⟩
      by_cases hki : k = i
      · subst hki; rw [← hSn]; omega
      · exact hall k (by omega)
end Go.Proofs.Ytgamcclfdkpcgaa

set_option linter.unusedVariables false
set_option linter.unusedSimpArgs false
set_option maxRecDepth 10000
namespace Go.Proofs.Ytgamcclfdkpcgaa
open Go Go.Am

theorem okC.ch {nx : List (List Int)} {pay cost : List Int} (C : okC nx pay cost) : Chn nx.length (wF nx) (pF pay) (pF cost) := C.chn
/-- The best values, as the program finds them. -/
noncomputable def bestL (nx : List (List Int)) (pay cost : List Int) : List (Int × Int) :=
  firstOf (sndB nx.length (wF nx)) (supB nx.length (wF nx) (pF pay) (pF cost)) (valL nx pay cost) (List.range (2 ^ nx.length))
theorem best_is {nx : List (List Int)} {pay cost : List Int} (C : okC nx pay cost) : ∃ x, x < 2 ^ nx.length ∧ sndP nx.length (wF nx) (ruleB x) ∧ sup nx.length (wF nx) (pF pay) (pF cost) (VN nx.length (wF nx) (pF pay) (pF cost) (ruleB x)) (DN nx.length (wF nx) (pF pay) (pF cost) (ruleB x)) ∧ bestL nx pay cost = valL nx pay cost x := by
  obtain ⟨y, hy, h1, h2⟩ := best_ex C.ch (by have := C.n1; omega)
  unfold bestL firstOf
  cases hf : (List.range (2 ^ nx.length)).find? fun x => sndB nx.length (wF nx) x && supB nx.length (wF nx) (pF pay) (pF cost) x with
  | none =>
    have := List.find?_eq_none.1 hf y (List.mem_range.2 hy)
    rw [sndB_iff.2 h1, supB_iff.2 h2] at this
    exact (this rfl).elim
  | some x =>
    have h3 := List.find?_some hf
    have h4 := List.mem_range.1 (List.mem_of_find?_eq_some hf)
    simp only [Bool.and_eq_true] at h3
    exact ⟨x, h4, sndB_iff.1 h3.1, supB_iff.1 h3.2, rfl⟩
theorem valL_len (nx : List (List Int)) (pay cost : List Int) (x : Nat) : (valL nx pay cost x).length = nx.length := by simp [valL]
theorem valL_nth {nx : List (List Int)} (pay cost : List Int) (x : Nat) {i : Nat} (hi : i < nx.length) : nth (valL nx pay cost x) i = rdP (VN nx.length (wF nx) (pF pay) (pF cost) (ruleB x) i) (DN nx.length (wF nx) (pF pay) (pF cost) (ruleB x)) := by rw [valL, nth_map_range _ _ _ hi]
theorem bestL_len {nx : List (List Int)} {pay cost : List Int} (C : okC nx pay cost) : (bestL nx pay cost).length = nx.length := by
  obtain ⟨x, _, _, _, e⟩ := best_is C
  rw [e, valL_len]
theorem eqM_congr {n : Nat} {w : Mat} {p c : Nat → Int} {r r' : Nat → Bool} (h : ∀ i, i < n → r i = r' i) {i : Nat} (hi : i < n) (j : Nat) : eqM n w p c r i j = eqM n w p c r' i j := by unfold eqM; rw [h i hi]
theorem valL_congr {nx : List (List Int)} {pay cost : List Int} {x y : Nat} (h : ∀ i, i < nx.length → ruleB x i = ruleB y i) : valL nx pay cost x = valL nx pay cost y := by
  unfold valL
  refine List.map_congr_left fun i hi => ?_
  have hd : det nx.length (eqM nx.length (wF nx) (pF pay) (pF cost) (ruleB x)) = det nx.length (eqM nx.length (wF nx) (pF pay) (pF cost) (ruleB y)) := det_congr fun r c hr hc => eqM_congr h hr c
  have hs : solV nx.length (eqM nx.length (wF nx) (pF pay) (pF cost) (ruleB x)) i = solV nx.length (eqM nx.length (wF nx) (pF pay) (pF cost) (ruleB y)) i := det_congr fun r c hr hc => by
    unfold colU
    split
    · exact eqM_congr h hr _
    · exact eqM_congr h hr c
  unfold VN DN
  rw [hd, hs]
theorem sndB_congr {n : Nat} {w : Mat} {x y : Nat} (h : ∀ i, i < n → ruleB x i = ruleB y i) : sndB n w x = sndB n w y := by
  have : sndB n w x = true ↔ sndB n w y = true := by
    rw [sndB_iff, sndB_iff]
    exact ⟨sndP_congr h, sndP_congr fun i hi => (h i hi).symm⟩
  cases h1 : sndB n w x <;> cases h2 : sndB n w y <;> simp_all

/-- The reference's way: the greatest of each state's values. -/
def stepL (n : Nat) (best v : List (Int × Int)) (m : Nat) : List (Int × Int) :=
  if best.length < n then (List.range m).map (nth v) else (List.range n).map fun k => if k < m ∧ lessP (nth best k) (nth v k) = true then nth v k else nth best k
noncomputable def bestR (nx : List (List Int)) (pay cost : List Int) : Nat → List (Int × Int)
  | 0 => []
  | m + 1 => if sndB nx.length (wF nx) m then stepL nx.length (bestR nx pay cost m) (valL nx pay cost m) nx.length else bestR nx pay cost m
structure BInv (nx : List (List Int)) (pay cost : List Int) (m : Nat) (b : List (Int × Int)) : Prop where
  no : b = [] → ∀ x, x < m → sndB nx.length (wF nx) x = false
  len : b = [] ∨ b.length = nx.length
  ex : ∀ i, i < b.length → ∃ x, x < m ∧ sndP nx.length (wF nx) (ruleB x) ∧ nth b i = nth (valL nx pay cost x) i
  ge : ∀ i, i < b.length → ∀ x, x < m → sndP nx.length (wF nx) (ruleB x) → (nth (valL nx pay cost x) i).1 * (nth b i).2 ≤ (nth b i).1 * (nth (valL nx pay cost x) i).2
theorem val_den {nx : List (List Int)} {pay cost : List Int} (C : okC nx pay cost) {x : Nat} (hs : sndP nx.length (wF nx) (ruleB x)) {i : Nat} (hi : i < nx.length) : (1 ≤ (nth (valL nx pay cost x) i).2 ∧ (nth (valL nx pay cost x) i).2 ≤ 262144) ∧ (-3188646000 ≤ (nth (valL nx pay cost x) i).1 ∧ (nth (valL nx pay cost x) i).1 ≤ 3188646000) := by
  have hn := C.n1
  have h6 := C.n6
  have hv := (vals_of C.ch hs (by omega)).pos
  have h1 := VN_b C.ch hs hi
  have h2 := DN_b C.ch hs
  have h3 := bE6 h6
  have h4 := bC6 h6
  rw [valL_nth pay cost x hi]
  have h5 := rdP_den (a := VN nx.length (wF nx) (pF pay) (pF cost) (ruleB x) i) hv
  have h6 := rdP_absN (a := VN nx.length (wF nx) (pF pay) (pF cost) (ruleB x) i) hv
  have h7 := absI_le.2 h1
  omega
theorem le_trans_fr {a b c : Int × Int} (ha : 0 < a.2) (hb : 0 < b.2) (hc : 0 < c.2) (h1 : a.1 * b.2 ≤ b.1 * a.2) (h2 : b.1 * c.2 ≤ c.1 * b.2) : a.1 * c.2 ≤ c.1 * a.2 := by
  have e1 := Int.mul_le_mul_of_nonneg_right h1 (Int.le_of_lt hc)
  have e2 := Int.mul_le_mul_of_nonneg_right h2 (Int.le_of_lt ha)
  have e3 : a.1 * c.2 * b.2 ≤ c.1 * a.2 * b.2 := by grind
  exact Int.le_of_mul_le_mul_right e3 hb
theorem bestR_inv {nx : List (List Int)} {pay cost : List Int} (C : okC nx pay cost) : ∀ m, BInv nx pay cost m (bestR nx pay cost m) := by
  have hn := C.n1
  intro m
  induction m with
  | zero => exact ⟨fun _ x hx => by omega, .inl rfl, fun i hi => by simp [bestR] at hi, fun i hi => by simp [bestR] at hi⟩
  | succ m ih =>
    rw [bestR]
    cases hs : sndB nx.length (wF nx) m with
    | false =>
      have hns : ¬ sndP nx.length (wF nx) (ruleB m) := fun h => by rw [sndB_iff.2 h] at hs; cases hs
      simp only [Bool.false_eq_true, if_false]
      refine ⟨fun e x hx => ?_, ih.len, fun i hi => ?_, fun i hi x hx hxs => ?_⟩
      · by_cases hxm : x = m
        · subst hxm; exact hs
        · exact ih.no e x (by omega)
      · obtain ⟨x, h1, h2⟩ := ih.ex i hi
        exact ⟨x, by omega, h2⟩
      · by_cases hxm : x = m
        · subst hxm; exact (hns hxs).elim
        · exact ih.ge i hi x (by omega) hxs
    | true =>
      have hsp := sndB_iff.1 hs
      simp only [if_true]
      have hvn : ∀ i, i < nx.length → 0 < (nth (valL nx pay cost m) i).2 := fun i hi => by have := (val_den C hsp hi).1; omega
      by_cases hlt : (bestR nx pay cost m).length < nx.length
      · have he : bestR nx pay cost m = [] := by
          rcases ih.len with e | e
          · exact e
          · omega
        have hst : stepL nx.length (bestR nx pay cost m) (valL nx pay cost m) nx.length = (List.range nx.length).map (nth (valL nx pay cost m)) := by unfold stepL; rw [if_pos hlt]
        rw [hst]
        have hno := ih.no he
        have hl : ((List.range nx.length).map (nth (valL nx pay cost m))).length = nx.length := by simp
        have hnt : ∀ i, i < nx.length → nth ((List.range nx.length).map (nth (valL nx pay cost m))) i = nth (valL nx pay cost m) i := fun i hi => nth_map_range _ _ _ hi
        refine ⟨fun e => ?_, .inr hl, fun i hi => ⟨m, by omega, hsp, hnt i (by omega)⟩, fun i hi x hx hxs => ?_⟩
        · have := congrArg List.length e; rw [hl] at this; simp only [List.length_nil] at this; omega
        · rw [hnt i (by omega)]
          by_cases hxm : x = m
          · subst hxm; exact Int.le_refl _
          · have := hno x (by omega); rw [sndB_iff.2 hxs] at this; cases this
      · have hbl : (bestR nx pay cost m).length = nx.length := by
          rcases ih.len with e | e
          · exact absurd (by rw [e, List.length_nil]; omega) hlt
          · exact e
        have hst : stepL nx.length (bestR nx pay cost m) (valL nx pay cost m) nx.length = (List.range nx.length).map fun k => if k < nx.length ∧ lessP (nth (bestR nx pay cost m) k) (nth (valL nx pay cost m) k) = true then nth (valL nx pay cost m) k else nth (bestR nx pay cost m) k := by unfold stepL; rw [if_neg hlt]
        rw [hst]
        generalize bestR nx pay cost m = b at *
        have hl : ((List.range nx.length).map fun k => if k < nx.length ∧ lessP (nth b k) (nth (valL nx pay cost m) k) = true then nth (valL nx pay cost m) k else nth b k).length = nx.length := by simp
        have hnt : ∀ i, i < nx.length → nth ((List.range nx.length).map fun k => if k < nx.length ∧ lessP (nth b k) (nth (valL nx pay cost m) k) = true then nth (valL nx pay cost m) k else nth b k) i = if lessP (nth b i) (nth (valL nx pay cost m) i) = true then nth (valL nx pay cost m) i else nth b i := fun i hi => by
          rw [nth_map_range _ _ _ hi]; simp [hi]
        refine ⟨fun e => ?_, .inr hl, fun i hi => ?_, fun i hi x hx hxs => ?_⟩
        · have := congrArg List.length e; rw [hl] at this; simp only [List.length_nil] at this; omega
        · rw [hnt i (by omega)]
          split
          · exact ⟨m, by omega, hsp, rfl⟩
          · obtain ⟨x, h1, h2⟩ := ih.ex i (by omega)
            exact ⟨x, by omega, h2⟩
        · rw [hnt i (by omega)]
          obtain ⟨y, _, hys, hy⟩ := ih.ex i (by omega)
          have hby : 0 < (nth b i).2 := by rw [hy]; have := (val_den C hys (show i < nx.length by omega)).1; omega
          have hvx := (val_den C hxs (show i < nx.length by omega)).1
          have hvm := hvn i (by omega)
          split
          · rename_i hless
            have hl2 : (nth b i).1 * (nth (valL nx pay cost m) i).2 < (nth (valL nx pay cost m) i).1 * (nth b i).2 := of_decide_eq_true hless
            by_cases hxm : x = m
            · subst hxm; exact Int.le_refl _
            · have := ih.ge i (by omega) x (by omega) hxs
              exact le_trans_fr (by omega) hby hvm this (Int.le_of_lt hl2)
          · rename_i hless
            have hl2 : ¬ (nth b i).1 * (nth (valL nx pay cost m) i).2 < (nth (valL nx pay cost m) i).1 * (nth b i).2 := fun h => hless (decide_eq_true h)
            by_cases hxm : x = m
            · subst hxm; omega
            · exact ih.ge i (by omega) x (by omega) hxs
/-- Both ways come to the same. -/
theorem bestR_eq {nx : List (List Int)} {pay cost : List Int} (C : okC nx pay cost) : bestR nx pay cost (2 ^ nx.length) = bestL nx pay cost := by
  have hn := C.n1
  obtain ⟨x, hx, hs, hsup, he⟩ := best_is C
  have I := bestR_inv C (2 ^ nx.length)
  have hne : bestR nx pay cost (2 ^ nx.length) ≠ [] := fun e => by
    have := I.no e x hx; rw [sndB_iff.2 hs] at this; cases this
  have hl : (bestR nx pay cost (2 ^ nx.length)).length = nx.length := by
    rcases I.len with e | e
    · exact (hne e).elim
    · exact e
  refine list_ext_nth (by rw [hl, bestL_len C]) fun i hi => ?_
  rw [hl] at hi
  obtain ⟨y, hy, hys, hyv⟩ := I.ex i (by omega)
  have hge := I.ge i (by omega) x hx hs
  rw [hyv] at hge ⊢
  rw [he, valL_nth pay cost y hi, valL_nth pay cost x hi] at *
  have B := Bst.of C.ch (by omega) hs hsup
  have hdy := vals_of C.ch hys (by omega)
  have hdx := vals_of C.ch hs (by omega)
  have h1 := B.dom C.ch hys hdy i hi
  have h2 : ¬ lessQ (rdP (VN nx.length (wF nx) (pF pay) (pF cost) (ruleB y) i) (DN nx.length (wF nx) (pF pay) (pF cost) (ruleB y))) (rdP (VN nx.length (wF nx) (pF pay) (pF cost) (ruleB x) i) (DN nx.length (wF nx) (pF pay) (pF cost) (ruleB x))) := by
    unfold lessQ; omega
  rw [lessP_rd hdy.pos hdx.pos] at h2
  exact rdP_cross hdy.pos hdx.pos (by omega)
end Go.Proofs.Ytgamcclfdkpcgaa

set_option linter.unusedVariables false
set_option linter.unusedSimpArgs false
set_option maxRecDepth 10000
namespace Go.Proofs.Ytgamcclfdkpcgaa
open Go Go.Am

variable {h h' : Hp} {K : AV → Hp → Prop}

@[go_sem] theorem und89' : Try.prog.underlying 89 = some (.slice 4) := Try.underlying89
/-- A run of bools. -/
def vecB (L : Nat → Bool) (N : Nat) : List AV := (List.range N).map fun k => .bool (L k)
theorem vecB_len (L : Nat → Bool) (N : Nat) : (vecB L N).length = N := by simp [vecB]
@[go_sem] theorem vecB_get (L : Nat → Bool) (N k : Nat) (hk : k < N) : (vecB L N)[k]? = some (.bool (L k)) := by
  rw [vecB, List.getElem?_map, List.getElem?_range hk]; rfl
theorem vecB_congr {f g : Nat → Bool} {N : Nat} (h : ∀ k, k < N → f k = g k) : vecB f N = vecB g N := by
  refine List.map_congr_left fun k hk => ?_
  rw [h k (List.mem_range.1 hk)]
@[go_sem] theorem vecB_store (L : Nat → Bool) (id N k : Nat) (row v : Bool) (hk : k < N) : storeC h id k 1 (some (.cells false row (vecB L N))) [.bool v] = some (.skp, h.put id (some (.cells false row (vecB (setB L k v) N)))) := by
  rw [storeC_one id _ row _ (.bool v) rfl (by rw [vecB_len]; omega)]
  congr 5
  refine List.ext_getElem? fun j => ?_
  rw [List.getElem?_set]
  by_cases hj : j < N
  · by_cases e : k = j
    · subst e
      rw [if_pos rfl, if_pos (by rw [vecB_len]; omega), vecB_get _ _ _ hj]
      simp [setB]
    · rw [if_neg e, vecB_get _ _ _ hj, vecB_get _ _ _ hj]
      simp [setB, Ne.symm e]
  · rw [if_neg (by omega), List.getElem?_eq_none (by rw [vecB_len]; omega), List.getElem?_eq_none (by rw [vecB_len]; omega)]
theorem vecB_false (N : Nat) : (List.replicate N false).flatMap (e1 AV.bool) = vecB (fun _ => false) N := by
  induction N with
  | zero => rfl
  | succ n ih => rw [List.replicate_succ', List.flatMap_append, ih, vecB, vecB, List.range_succ, List.map_append]; rfl

theorem f32_con {nx : List (List Int)} {pay cost : List Int} (C : okC nx pay cost) (l : List Int) (hl : l.length ≤ maxLen) :
    Con Try.prog cfg 32 [chA nx pay cost, LI l] (.bool (sndB nx.length (wF nx) (xOf nx.length l))) := by
  obtain ⟨n, hn⟩ : ∃ n, n = nx.length := ⟨_, rfl⟩
  have hn1 := C.n1
  have hn6 := C.n6
  have hal : ∀ g : Hp, allocB g (some (chA nx pay cost)) = some (.ptr g.nx 0, g.alloc (.cells false false [LLI nx, LI pay, LI cost])) := fun g => allocB_agg _ rfl
  have hmk : ∀ g : Hp, makeB Try.prog g (some (.slice 4)) (.int .i64 (n : Int)) (.int .i64 (n : Int)) = some (.sl g.nx 0 n 1, g.alloc (.cells false true (vecB (fun _ => false) n))) := fun g => by
    have := makeB_bool (P := Try.prog) (h := g) 4 (n : Int) isz4 ibytes4 izero4 (by omega) (by omega)
    rwa [Int.toNat_natCast, vecB_false] at this
  have k57 := fun v h h' K => ConW_num (h := h) (h' := h') (K := K) (f57_con l hl v) rfl
  have CC := C.chn
  rw [← hn] at CC ⊢
  obtain ⟨L0, hL0⟩ : ∃ L0 : Nat → Bool, L0 = fun i : Nat => hasB l (i : Int) || decide (sumN (wF nx i) n < 4) := ⟨_, rfl⟩
  have hLL : Left n (wF nx) (ruleB (xOf n l)) L0 := by
    refine ⟨fun S hS i hi hli => ?_, fun i hi hr => by rw [hL0]; rw [xOf_bit l hi] at hr; simp [hr]⟩
    cases hsi : S i with
    | false => rfl
    | true =>
      obtain ⟨a, b, _⟩ := hS i hi hsi
      rw [xOf_bit l hi] at a
      rw [hL0] at hli
      simp only [a, Bool.false_or, decide_eq_true_eq] at hli
      omega
  have h4 : ∀ i, i < n → L0 i = false → sumN (wF nx i) n = 4 := fun i hi h => by
    rw [hL0] at h
    simp only [Bool.or_eq_false_iff, decide_eq_false_iff_not] at h
    have h1 := CC.w4 i hi
    have h2 : ¬ sumN (fun j => nth (nth nx i) j) n < 4 := h.2
    show sumN (fun j => nth (nth nx i) j) n = 4
    omega
  refine Con_intro Try.func32 rfl ok32 (Nat.le_of_ble_eq_true rfl) rfl ?_
  simp only [Try.f32, Option.getD_some, initSt2]
  simp (disch := first | (simp only [go_sem, gb0, eq_self]; done) | omega | (simp only [gl1, gl2]; omega)) only [go_sem, ↓reduceIte, Nat.reduceEqDiff, Nat.reduceAdd, Nat.reduceMul, Nat.reduceSub, Int.reduceToNat, Nat.reduceBEq, hal, ← hn, hmk]
  refine WP_cut (fun st h => st 1 = LI l ∧ st 2 = .ptr 0 0 ∧ st 5 = I n ∧ st 6 = .sl 1 0 n 1 ∧ h.nx = 2 ∧ h.bl 0 = some (.cells false false [LLI nx, LI pay, LI cost]) ∧ h.bl 1 = some (.cells false true (vecB L0 n))) ?_ ?_
  · refine WP_for 7 n (fun i st h => st 1 = LI l ∧ st 2 = .ptr 0 0 ∧ st 5 = I n ∧ st 6 = .sl 1 0 n 1 ∧ h.nx = 2 ∧ h.bl 0 = some (.cells false false [LLI nx, LI pay, LI cost]) ∧ h.bl 1 = some (.cells false true (vecB (fun k => if k < i then L0 k else false) n))) (by simp (disch := first | (simp only [go_sem, gb0, eq_self]; done) | omega | (simp only [gl1, gl2]; omega)) only [go_sem, ↓reduceIte, Nat.reduceEqDiff, Nat.reduceAdd, Nat.reduceMul, Nat.reduceSub, Int.reduceToNat, Nat.reduceBEq])
      ⟨by simp (disch := first | (simp only [go_sem, gb0, eq_self]; done) | omega | (simp only [gl1, gl2]; omega)) only [go_sem, ↓reduceIte, Nat.reduceEqDiff, Nat.reduceAdd, Nat.reduceMul, Nat.reduceSub, Int.reduceToNat, Nat.reduceBEq], by simp (disch := first | (simp only [go_sem, gb0, eq_self]; done) | omega | (simp only [gl1, gl2]; omega)) only [go_sem, ↓reduceIte, Nat.reduceEqDiff, Nat.reduceAdd, Nat.reduceMul, Nat.reduceSub, Int.reduceToNat, Nat.reduceBEq], by simp (disch := first | (simp only [go_sem, gb0, eq_self]; done) | omega | (simp only [gl1, gl2]; omega)) only [go_sem, ↓reduceIte, Nat.reduceEqDiff, Nat.reduceAdd, Nat.reduceMul, Nat.reduceSub, Int.reduceToNat, Nat.reduceBEq, hn], by simp (disch := first | (simp only [go_sem, gb0, eq_self]; done) | omega | (simp only [gl1, gl2]; omega)) only [go_sem, ↓reduceIte, Nat.reduceEqDiff, Nat.reduceAdd, Nat.reduceMul, Nat.reduceSub, Int.reduceToNat, Nat.reduceBEq], rfl, by simp (disch := first | (simp only [go_sem, gb0, eq_self]; done) | omega | (simp only [gl1, gl2]; omega)) only [go_sem, ↓reduceIte, Nat.reduceEqDiff, Nat.reduceAdd, Nat.reduceMul, Nat.reduceSub, Int.reduceToNat, Nat.reduceBEq], by simp (disch := first | (simp only [go_sem, gb0, eq_self]; done) | omega | (simp only [gl1, gl2]; omega)) only [go_sem, ↓reduceIte, Nat.reduceEqDiff, Nat.reduceAdd, Nat.reduceMul, Nat.reduceSub, Int.reduceToNat, Nat.reduceBEq]; rfl⟩ ?_
    rintro i st h hi s7 ⟨s1, s2, s5, s6, hnx, b0, b1⟩
    by_cases hlt : i < n
    case neg =>
      have hie : i = n := by omega
      subst hie
      have he : vecB (fun k => if k < i then L0 k else false) i = vecB L0 i := vecB_congr fun k hk => if_pos hk
      rw [he] at b1
      simp (disch := first | (simp only [go_sem, gb0, eq_self]; done) | omega | (simp only [gl1, gl2]; omega)) only [go_sem, ↓reduceIte, Nat.reduceEqDiff, Nat.reduceAdd, Nat.reduceMul, Nat.reduceSub, Int.reduceToNat, Nat.reduceBEq, s1, s2, s5, s6, s7, hlt]
      exact ⟨hnx, b0, b1⟩
    have hi1 : i < nx.length := by omega
    have hi1' : (i : Int) < nx.length := by omega
    have hin' : (i : Int) < n := by omega
    have hrow := C.row i hi1
    simp (disch := first | (simp only [go_sem, gb0, eq_self]; done) | omega | (simp only [gl1, gl2]; omega)) only [go_sem, ↓reduceIte, Nat.reduceEqDiff, Nat.reduceAdd, Nat.reduceMul, Nat.reduceSub, Int.reduceToNat, Nat.reduceBEq, s1, s2, s5, s6, s7, hlt]
    refine WP_cut (fun st h => st 1 = LI l ∧ st 2 = .ptr 0 0 ∧ st 5 = I n ∧ st 6 = .sl 1 0 n 1 ∧ st 7 = I i ∧ st 8 = I (sumN (wF nx i) n) ∧ h.nx = 2 ∧ h.bl 0 = some (.cells false false [LLI nx, LI pay, LI cost]) ∧ h.bl 1 = some (.cells false true (vecB (fun k => if k < i then L0 k else false) n))) ?_ ?_
    · refine WP_for 9 n (fun j st h => st 1 = LI l ∧ st 2 = .ptr 0 0 ∧ st 5 = I n ∧ st 6 = .sl 1 0 n 1 ∧ st 7 = I i ∧ st 8 = I (sumN (wF nx i) j) ∧ h.nx = 2 ∧ h.bl 0 = some (.cells false false [LLI nx, LI pay, LI cost]) ∧ h.bl 1 = some (.cells false true (vecB (fun k => if k < i then L0 k else false) n))) (by simp (disch := first | (simp only [go_sem, gb0, eq_self]; done) | omega | (simp only [gl1, gl2]; omega)) only [go_sem, ↓reduceIte, Nat.reduceEqDiff, Nat.reduceAdd, Nat.reduceMul, Nat.reduceSub, Int.reduceToNat, Nat.reduceBEq])
        ⟨by simp (disch := first | (simp only [go_sem, gb0, eq_self]; done) | omega | (simp only [gl1, gl2]; omega)) only [go_sem, ↓reduceIte, Nat.reduceEqDiff, Nat.reduceAdd, Nat.reduceMul, Nat.reduceSub, Int.reduceToNat, Nat.reduceBEq, s1], by simp (disch := first | (simp only [go_sem, gb0, eq_self]; done) | omega | (simp only [gl1, gl2]; omega)) only [go_sem, ↓reduceIte, Nat.reduceEqDiff, Nat.reduceAdd, Nat.reduceMul, Nat.reduceSub, Int.reduceToNat, Nat.reduceBEq, s2], by simp (disch := first | (simp only [go_sem, gb0, eq_self]; done) | omega | (simp only [gl1, gl2]; omega)) only [go_sem, ↓reduceIte, Nat.reduceEqDiff, Nat.reduceAdd, Nat.reduceMul, Nat.reduceSub, Int.reduceToNat, Nat.reduceBEq, s5], by simp (disch := first | (simp only [go_sem, gb0, eq_self]; done) | omega | (simp only [gl1, gl2]; omega)) only [go_sem, ↓reduceIte, Nat.reduceEqDiff, Nat.reduceAdd, Nat.reduceMul, Nat.reduceSub, Int.reduceToNat, Nat.reduceBEq, s6], by simp (disch := first | (simp only [go_sem, gb0, eq_self]; done) | omega | (simp only [gl1, gl2]; omega)) only [go_sem, ↓reduceIte, Nat.reduceEqDiff, Nat.reduceAdd, Nat.reduceMul, Nat.reduceSub, Int.reduceToNat, Nat.reduceBEq, s7], by simp (disch := first | (simp only [go_sem, gb0, eq_self]; done) | omega | (simp only [gl1, gl2]; omega)) only [go_sem, ↓reduceIte, Nat.reduceEqDiff, Nat.reduceAdd, Nat.reduceMul, Nat.reduceSub, Int.reduceToNat, Nat.reduceBEq]; rfl, hnx, b0, b1⟩ ?_
      rintro j st h hj s9 ⟨s1, s2, s5, s6, s7, s8, hnx, b0, b1⟩
      by_cases hjn : j < n
      case neg =>
        have hje : j = n := by omega
        subst hje
        simp (disch := first | (simp only [go_sem, gb0, eq_self]; done) | omega | (simp only [gl1, gl2]; omega)) only [go_sem, ↓reduceIte, Nat.reduceEqDiff, Nat.reduceAdd, Nat.reduceMul, Nat.reduceSub, Int.reduceToNat, Nat.reduceBEq, s1, s2, s5, s6, s7, s8, s9, hjn]
        exact ⟨hnx, b0, b1⟩
      have hjr : j < (nth nx i).length := by omega
      have hjr' : (j : Int) < (nth nx i).length := by omega
      have hwb := C.wb hi1 (show j < nx.length by omega)
      have hsb := sumN_bounds (f := wF nx i) (lo := 0) (hi := 4) (n := j) fun k hk => C.wb hi1 (show k < nx.length by omega)
      have hs1 : sumN (wF nx i) (j + 1) = sumN (wF nx i) j + nth (nth nx i) j := rfl
      simp (disch := first | (simp only [go_sem, gb0, eq_self]; done) | omega | (simp only [gl1, gl2]; omega)) only [go_sem, ↓reduceIte, Nat.reduceEqDiff, Nat.reduceAdd, Nat.reduceMul, Nat.reduceSub, Int.reduceToNat, Nat.reduceBEq, s1, s2, s5, s6, s7, s8, s9, hjn, hi1, hi1', hjr, hjr', b0]
      rw [ForK_normal]
      exact ⟨hjn, by simp (disch := first | (simp only [go_sem, gb0, eq_self]; done) | omega | (simp only [gl1, gl2]; omega)) only [go_sem, ↓reduceIte, Nat.reduceEqDiff, Nat.reduceAdd, Nat.reduceMul, Nat.reduceSub, Int.reduceToNat, Nat.reduceBEq, s9], by simp (disch := first | (simp only [go_sem, gb0, eq_self]; done) | omega | (simp only [gl1, gl2]; omega)) only [go_sem, ↓reduceIte, Nat.reduceEqDiff, Nat.reduceAdd, Nat.reduceMul, Nat.reduceSub, Int.reduceToNat, Nat.reduceBEq, s1], by simp (disch := first | (simp only [go_sem, gb0, eq_self]; done) | omega | (simp only [gl1, gl2]; omega)) only [go_sem, ↓reduceIte, Nat.reduceEqDiff, Nat.reduceAdd, Nat.reduceMul, Nat.reduceSub, Int.reduceToNat, Nat.reduceBEq, s2], by simp (disch := first | (simp only [go_sem, gb0, eq_self]; done) | omega | (simp only [gl1, gl2]; omega)) only [go_sem, ↓reduceIte, Nat.reduceEqDiff, Nat.reduceAdd, Nat.reduceMul, Nat.reduceSub, Int.reduceToNat, Nat.reduceBEq, s5], by simp (disch := first | (simp only [go_sem, gb0, eq_self]; done) | omega | (simp only [gl1, gl2]; omega)) only [go_sem, ↓reduceIte, Nat.reduceEqDiff, Nat.reduceAdd, Nat.reduceMul, Nat.reduceSub, Int.reduceToNat, Nat.reduceBEq, s6], by simp (disch := first | (simp only [go_sem, gb0, eq_self]; done) | omega | (simp only [gl1, gl2]; omega)) only [go_sem, ↓reduceIte, Nat.reduceEqDiff, Nat.reduceAdd, Nat.reduceMul, Nat.reduceSub, Int.reduceToNat, Nat.reduceBEq, s7], by (rw [hs1]; simp (disch := first | (simp only [go_sem, gb0, eq_self]; done) | omega | (simp only [gl1, gl2]; omega)) only [go_sem, ↓reduceIte, Nat.reduceEqDiff, Nat.reduceAdd, Nat.reduceMul, Nat.reduceSub, Int.reduceToNat, Nat.reduceBEq]), hnx, b0, b1⟩
    · rintro st h ⟨s1, s2, s5, s6, s7, s8, hnx, b0, b1⟩
      have hset : ∀ b, L0 i = b → vecB (setB (fun k => if k < i then L0 k else false) i b) n = vecB (fun k => if k < i + 1 then L0 k else false) n := fun b hb => vecB_congr fun k hk => by
        unfold setB
        by_cases hki : k = i
        · subst hki; rw [if_pos rfl, if_pos (by omega), hb]
        · have : (k < i) ↔ (k < i + 1) := by omega
          simp [hki, this]
      have hLi : L0 i = (hasB l i || decide (sumN (wF nx i) n < 4)) := by rw [hL0]
      cases hh : hasB l i with
      | true =>
        have hs := hset true (by rw [hLi, hh]; rfl)
        simp (disch := first | (simp only [go_sem, gb0, eq_self]; done) | omega | (simp only [gl1, gl2]; omega)) only [go_sem, ↓reduceIte, Nat.reduceEqDiff, Nat.reduceAdd, Nat.reduceMul, Nat.reduceSub, Int.reduceToNat, Nat.reduceBEq, s1, s2, s5, s6, s7, s8, k57, hh, hin', hlt, b1, hs]
        rw [ForK_normal]
        exact ⟨hlt, by simp (disch := first | (simp only [go_sem, gb0, eq_self]; done) | omega | (simp only [gl1, gl2]; omega)) only [go_sem, ↓reduceIte, Nat.reduceEqDiff, Nat.reduceAdd, Nat.reduceMul, Nat.reduceSub, Int.reduceToNat, Nat.reduceBEq, s7], by simp (disch := first | (simp only [go_sem, gb0, eq_self]; done) | omega | (simp only [gl1, gl2]; omega)) only [go_sem, ↓reduceIte, Nat.reduceEqDiff, Nat.reduceAdd, Nat.reduceMul, Nat.reduceSub, Int.reduceToNat, Nat.reduceBEq, s1], by simp (disch := first | (simp only [go_sem, gb0, eq_self]; done) | omega | (simp only [gl1, gl2]; omega)) only [go_sem, ↓reduceIte, Nat.reduceEqDiff, Nat.reduceAdd, Nat.reduceMul, Nat.reduceSub, Int.reduceToNat, Nat.reduceBEq, s2], by simp (disch := first | (simp only [go_sem, gb0, eq_self]; done) | omega | (simp only [gl1, gl2]; omega)) only [go_sem, ↓reduceIte, Nat.reduceEqDiff, Nat.reduceAdd, Nat.reduceMul, Nat.reduceSub, Int.reduceToNat, Nat.reduceBEq, s5], by simp (disch := first | (simp only [go_sem, gb0, eq_self]; done) | omega | (simp only [gl1, gl2]; omega)) only [go_sem, ↓reduceIte, Nat.reduceEqDiff, Nat.reduceAdd, Nat.reduceMul, Nat.reduceSub, Int.reduceToNat, Nat.reduceBEq, s6], by simp (disch := first | (simp only [go_sem, gb0, eq_self]; done) | omega | (simp only [gl1, gl2]; omega)) only [go_sem, ↓reduceIte, Nat.reduceEqDiff, Nat.reduceAdd, Nat.reduceMul, Nat.reduceSub, Int.reduceToNat, Nat.reduceBEq, hnx], by simp (disch := first | (simp only [go_sem, gb0, eq_self]; done) | omega | (simp only [gl1, gl2]; omega)) only [go_sem, ↓reduceIte, Nat.reduceEqDiff, Nat.reduceAdd, Nat.reduceMul, Nat.reduceSub, Int.reduceToNat, Nat.reduceBEq, b0], by simp (disch := first | (simp only [go_sem, gb0, eq_self]; done) | omega | (simp only [gl1, gl2]; omega)) only [go_sem, ↓reduceIte, Nat.reduceEqDiff, Nat.reduceAdd, Nat.reduceMul, Nat.reduceSub, Int.reduceToNat, Nat.reduceBEq]⟩
      | false =>
        by_cases hc : sumN (wF nx i) n < 4
        · have hs := hset true (by rw [hLi, hh, decide_eq_true hc]; rfl)
          simp (disch := first | (simp only [go_sem, gb0, eq_self]; done) | omega | (simp only [gl1, gl2]; omega)) only [go_sem, ↓reduceIte, Nat.reduceEqDiff, Nat.reduceAdd, Nat.reduceMul, Nat.reduceSub, Int.reduceToNat, Nat.reduceBEq, s1, s2, s5, s6, s7, s8, k57, hh, hc, hin', hlt, b1, hs]
          rw [ForK_normal]
          exact ⟨hlt, by simp (disch := first | (simp only [go_sem, gb0, eq_self]; done) | omega | (simp only [gl1, gl2]; omega)) only [go_sem, ↓reduceIte, Nat.reduceEqDiff, Nat.reduceAdd, Nat.reduceMul, Nat.reduceSub, Int.reduceToNat, Nat.reduceBEq, s7], by simp (disch := first | (simp only [go_sem, gb0, eq_self]; done) | omega | (simp only [gl1, gl2]; omega)) only [go_sem, ↓reduceIte, Nat.reduceEqDiff, Nat.reduceAdd, Nat.reduceMul, Nat.reduceSub, Int.reduceToNat, Nat.reduceBEq, s1], by simp (disch := first | (simp only [go_sem, gb0, eq_self]; done) | omega | (simp only [gl1, gl2]; omega)) only [go_sem, ↓reduceIte, Nat.reduceEqDiff, Nat.reduceAdd, Nat.reduceMul, Nat.reduceSub, Int.reduceToNat, Nat.reduceBEq, s2], by simp (disch := first | (simp only [go_sem, gb0, eq_self]; done) | omega | (simp only [gl1, gl2]; omega)) only [go_sem, ↓reduceIte, Nat.reduceEqDiff, Nat.reduceAdd, Nat.reduceMul, Nat.reduceSub, Int.reduceToNat, Nat.reduceBEq, s5], by simp (disch := first | (simp only [go_sem, gb0, eq_self]; done) | omega | (simp only [gl1, gl2]; omega)) only [go_sem, ↓reduceIte, Nat.reduceEqDiff, Nat.reduceAdd, Nat.reduceMul, Nat.reduceSub, Int.reduceToNat, Nat.reduceBEq, s6], by simp (disch := first | (simp only [go_sem, gb0, eq_self]; done) | omega | (simp only [gl1, gl2]; omega)) only [go_sem, ↓reduceIte, Nat.reduceEqDiff, Nat.reduceAdd, Nat.reduceMul, Nat.reduceSub, Int.reduceToNat, Nat.reduceBEq, hnx], by simp (disch := first | (simp only [go_sem, gb0, eq_self]; done) | omega | (simp only [gl1, gl2]; omega)) only [go_sem, ↓reduceIte, Nat.reduceEqDiff, Nat.reduceAdd, Nat.reduceMul, Nat.reduceSub, Int.reduceToNat, Nat.reduceBEq, b0], by simp (disch := first | (simp only [go_sem, gb0, eq_self]; done) | omega | (simp only [gl1, gl2]; omega)) only [go_sem, ↓reduceIte, Nat.reduceEqDiff, Nat.reduceAdd, Nat.reduceMul, Nat.reduceSub, Int.reduceToNat, Nat.reduceBEq]⟩
        · have hs := hset false (by rw [hLi, hh, decide_eq_false hc]; rfl)
          simp (disch := first | (simp only [go_sem, gb0, eq_self]; done) | omega | (simp only [gl1, gl2]; omega)) only [go_sem, ↓reduceIte, Nat.reduceEqDiff, Nat.reduceAdd, Nat.reduceMul, Nat.reduceSub, Int.reduceToNat, Nat.reduceBEq, s1, s2, s5, s6, s7, s8, k57, hh, hc, hin', hlt, b1, hs]
          rw [ForK_normal]
          exact ⟨hlt, by simp (disch := first | (simp only [go_sem, gb0, eq_self]; done) | omega | (simp only [gl1, gl2]; omega)) only [go_sem, ↓reduceIte, Nat.reduceEqDiff, Nat.reduceAdd, Nat.reduceMul, Nat.reduceSub, Int.reduceToNat, Nat.reduceBEq, s7], by simp (disch := first | (simp only [go_sem, gb0, eq_self]; done) | omega | (simp only [gl1, gl2]; omega)) only [go_sem, ↓reduceIte, Nat.reduceEqDiff, Nat.reduceAdd, Nat.reduceMul, Nat.reduceSub, Int.reduceToNat, Nat.reduceBEq, s1], by simp (disch := first | (simp only [go_sem, gb0, eq_self]; done) | omega | (simp only [gl1, gl2]; omega)) only [go_sem, ↓reduceIte, Nat.reduceEqDiff, Nat.reduceAdd, Nat.reduceMul, Nat.reduceSub, Int.reduceToNat, Nat.reduceBEq, s2], by simp (disch := first | (simp only [go_sem, gb0, eq_self]; done) | omega | (simp only [gl1, gl2]; omega)) only [go_sem, ↓reduceIte, Nat.reduceEqDiff, Nat.reduceAdd, Nat.reduceMul, Nat.reduceSub, Int.reduceToNat, Nat.reduceBEq, s5], by simp (disch := first | (simp only [go_sem, gb0, eq_self]; done) | omega | (simp only [gl1, gl2]; omega)) only [go_sem, ↓reduceIte, Nat.reduceEqDiff, Nat.reduceAdd, Nat.reduceMul, Nat.reduceSub, Int.reduceToNat, Nat.reduceBEq, s6], by simp (disch := first | (simp only [go_sem, gb0, eq_self]; done) | omega | (simp only [gl1, gl2]; omega)) only [go_sem, ↓reduceIte, Nat.reduceEqDiff, Nat.reduceAdd, Nat.reduceMul, Nat.reduceSub, Int.reduceToNat, Nat.reduceBEq, hnx], by simp (disch := first | (simp only [go_sem, gb0, eq_self]; done) | omega | (simp only [gl1, gl2]; omega)) only [go_sem, ↓reduceIte, Nat.reduceEqDiff, Nat.reduceAdd, Nat.reduceMul, Nat.reduceSub, Int.reduceToNat, Nat.reduceBEq, b0], by simp (disch := first | (simp only [go_sem, gb0, eq_self]; done) | omega | (simp only [gl1, gl2]; omega)) only [go_sem, ↓reduceIte, Nat.reduceEqDiff, Nat.reduceAdd, Nat.reduceMul, Nat.reduceSub, Int.reduceToNat, Nat.reduceBEq]⟩
  rintro st h ⟨s1, s2, s5, s6, hnx, b0, b1⟩
  simp (disch := first | (simp only [go_sem, gb0, eq_self]; done) | omega | (simp only [gl1, gl2]; omega)) only [go_sem, ↓reduceIte, Nat.reduceEqDiff, Nat.reduceAdd, Nat.reduceMul, Nat.reduceSub, Int.reduceToNat, Nat.reduceBEq, s1, s2, s5, s6]
  refine WP_cut (fun st h => st 1 = LI l ∧ st 2 = .ptr 0 0 ∧ st 5 = I n ∧ st 6 = .sl 1 0 n 1 ∧ ∃ L, h.bl 1 = some (.cells false true (vecB L n)) ∧ Left n (wF nx) (ruleB (xOf n l)) L ∧ stab n (wF nx) L n) ?_ ?_
  · refine WP_loopK (fun m st h => ∃ (g : Bool) (L : Nat → Bool), m = (if g then cntF L + 1 else 0) ∧ st 1 = LI l ∧ st 2 = .ptr 0 0 ∧ st 5 = I n ∧ st 6 = .sl 1 0 n 1 ∧ st 10 = .bool g ∧ h.nx = 2 ∧ h.bl 0 = some (.cells false false [LLI nx, LI pay, LI cost]) ∧ h.bl 1 = some (.cells false true (vecB L n)) ∧ Left n (wF nx) (ruleB (xOf n l)) L ∧ (∀ i, i < n → L0 i = true → L i = true) ∧ (g = false → stab n (wF nx) L n)) (cntF L0 + 1)
      ⟨true, L0, rfl, by simp (disch := first | (simp only [go_sem, gb0, eq_self]; done) | omega | (simp only [gl1, gl2]; omega)) only [go_sem, ↓reduceIte, Nat.reduceEqDiff, Nat.reduceAdd, Nat.reduceMul, Nat.reduceSub, Int.reduceToNat, Nat.reduceBEq, s1], by simp (disch := first | (simp only [go_sem, gb0, eq_self]; done) | omega | (simp only [gl1, gl2]; omega)) only [go_sem, ↓reduceIte, Nat.reduceEqDiff, Nat.reduceAdd, Nat.reduceMul, Nat.reduceSub, Int.reduceToNat, Nat.reduceBEq, s2], by simp (disch := first | (simp only [go_sem, gb0, eq_self]; done) | omega | (simp only [gl1, gl2]; omega)) only [go_sem, ↓reduceIte, Nat.reduceEqDiff, Nat.reduceAdd, Nat.reduceMul, Nat.reduceSub, Int.reduceToNat, Nat.reduceBEq, s5], by simp (disch := first | (simp only [go_sem, gb0, eq_self]; done) | omega | (simp only [gl1, gl2]; omega)) only [go_sem, ↓reduceIte, Nat.reduceEqDiff, Nat.reduceAdd, Nat.reduceMul, Nat.reduceSub, Int.reduceToNat, Nat.reduceBEq, s6], by simp (disch := first | (simp only [go_sem, gb0, eq_self]; done) | omega | (simp only [gl1, gl2]; omega)) only [go_sem, ↓reduceIte, Nat.reduceEqDiff, Nat.reduceAdd, Nat.reduceMul, Nat.reduceSub, Int.reduceToNat, Nat.reduceBEq], hnx, b0, b1, hLL, fun _ _ h => h, fun h => by cases h⟩ ?_
    rintro m st h ⟨g, L, rfl, s1, s2, s5, s6, s10, hnx, b0, b1, hL, hsub, hg⟩
    cases g with
    | false =>
      simp (disch := first | (simp only [go_sem, gb0, eq_self]; done) | omega | (simp only [gl1, gl2]; omega)) only [go_sem, ↓reduceIte, Nat.reduceEqDiff, Nat.reduceAdd, Nat.reduceMul, Nat.reduceSub, Int.reduceToNat, Nat.reduceBEq, s1, s2, s5, s6, s10]
      exact ⟨L, b1, hL, hg rfl⟩
    | true =>
    simp (disch := first | (simp only [go_sem, gb0, eq_self]; done) | omega | (simp only [gl1, gl2]; omega)) only [go_sem, ↓reduceIte, Nat.reduceEqDiff, Nat.reduceAdd, Nat.reduceMul, Nat.reduceSub, Int.reduceToNat, Nat.reduceBEq, s1, s2, s5, s6, s10]
    refine WP_cut (fun st h => st 1 = LI l ∧ st 2 = .ptr 0 0 ∧ st 5 = I n ∧ st 6 = .sl 1 0 n 1 ∧ h.nx = 2 ∧ h.bl 0 = some (.cells false false [LLI nx, LI pay, LI cost]) ∧ ∃ (g : Bool) (L' : Nat → Bool), st 10 = .bool g ∧ h.bl 1 = some (.cells false true (vecB L' n)) ∧ Left n (wF nx) (ruleB (xOf n l)) L' ∧ (∀ i, i < n → L0 i = true → L' i = true) ∧ (g = true → cntF L' < cntF L) ∧ (g = false → stab n (wF nx) L' n)) ?_ ?_
    · refine WP_for 11 n (fun i st h => st 1 = LI l ∧ st 2 = .ptr 0 0 ∧ st 5 = I n ∧ st 6 = .sl 1 0 n 1 ∧ h.nx = 2 ∧ h.bl 0 = some (.cells false false [LLI nx, LI pay, LI cost]) ∧ ∃ (g : Bool) (L' : Nat → Bool), st 10 = .bool g ∧ h.bl 1 = some (.cells false true (vecB L' n)) ∧ Left n (wF nx) (ruleB (xOf n l)) L' ∧ (∀ i, i < n → L0 i = true → L' i = true) ∧ (g = true → cntF L' < cntF L) ∧ (g = false → L' = L ∧ stab n (wF nx) L i)) (by simp (disch := first | (simp only [go_sem, gb0, eq_self]; done) | omega | (simp only [gl1, gl2]; omega)) only [go_sem, ↓reduceIte, Nat.reduceEqDiff, Nat.reduceAdd, Nat.reduceMul, Nat.reduceSub, Int.reduceToNat, Nat.reduceBEq])
        ⟨by simp (disch := first | (simp only [go_sem, gb0, eq_self]; done) | omega | (simp only [gl1, gl2]; omega)) only [go_sem, ↓reduceIte, Nat.reduceEqDiff, Nat.reduceAdd, Nat.reduceMul, Nat.reduceSub, Int.reduceToNat, Nat.reduceBEq, s1], by simp (disch := first | (simp only [go_sem, gb0, eq_self]; done) | omega | (simp only [gl1, gl2]; omega)) only [go_sem, ↓reduceIte, Nat.reduceEqDiff, Nat.reduceAdd, Nat.reduceMul, Nat.reduceSub, Int.reduceToNat, Nat.reduceBEq, s2], by simp (disch := first | (simp only [go_sem, gb0, eq_self]; done) | omega | (simp only [gl1, gl2]; omega)) only [go_sem, ↓reduceIte, Nat.reduceEqDiff, Nat.reduceAdd, Nat.reduceMul, Nat.reduceSub, Int.reduceToNat, Nat.reduceBEq, s5], by simp (disch := first | (simp only [go_sem, gb0, eq_self]; done) | omega | (simp only [gl1, gl2]; omega)) only [go_sem, ↓reduceIte, Nat.reduceEqDiff, Nat.reduceAdd, Nat.reduceMul, Nat.reduceSub, Int.reduceToNat, Nat.reduceBEq, s6], hnx, b0, false, L, by simp (disch := first | (simp only [go_sem, gb0, eq_self]; done) | omega | (simp only [gl1, gl2]; omega)) only [go_sem, ↓reduceIte, Nat.reduceEqDiff, Nat.reduceAdd, Nat.reduceMul, Nat.reduceSub, Int.reduceToNat, Nat.reduceBEq], b1, hL, hsub, fun h => (by cases h), fun _ => ⟨rfl, fun i hi => by omega⟩⟩ ?_
      rintro i st h hi s11 ⟨s1, s2, s5, s6, hnx, b0, g, L', s10, b1, hL', hsub', hg1, hg2⟩
      by_cases hlt : i < n
      case neg =>
        have hie : i = n := by omega
        subst hie
        simp (disch := first | (simp only [go_sem, gb0, eq_self]; done) | omega | (simp only [gl1, gl2]; omega)) only [go_sem, ↓reduceIte, Nat.reduceEqDiff, Nat.reduceAdd, Nat.reduceMul, Nat.reduceSub, Int.reduceToNat, Nat.reduceBEq, s1, s2, s5, s6, s10, s11, hlt]
        exact ⟨hnx, b0, g, L', rfl, b1, hL', hsub', hg1, fun h => by obtain ⟨e, s⟩ := hg2 h; rw [e]; exact s⟩
      have hi1 : i < nx.length := by omega
      have hi1' : (i : Int) < nx.length := by omega
      have hin' : (i : Int) < n := by omega
      have hi6 : i < 6 := by omega
      have hrow := C.row i hi1
      have hle : cntF L' ≤ cntF L := by
        cases g with
        | true => exact Nat.le_of_lt (hg1 rfl)
        | false => rw [(hg2 rfl).1]; exact Nat.le_refl _
      simp (disch := first | (simp only [go_sem, gb0, eq_self]; done) | omega | (simp only [gl1, gl2]; omega)) only [go_sem, ↓reduceIte, Nat.reduceEqDiff, Nat.reduceAdd, Nat.reduceMul, Nat.reduceSub, Int.reduceToNat, Nat.reduceBEq, s1, s2, s5, s6, s10, s11, hlt]
      refine WP_cut (fun st h => st 1 = LI l ∧ st 2 = .ptr 0 0 ∧ st 5 = I n ∧ st 6 = .sl 1 0 n 1 ∧ st 11 = I i ∧ h.nx = 2 ∧ h.bl 0 = some (.cells false false [LLI nx, LI pay, LI cost]) ∧
          ((st 10 = .bool g ∧ h.bl 1 = some (.cells false true (vecB L' n)) ∧ (L' i = true ∨ leads (wF nx) L' i n = false)) ∨ (st 10 = .bool true ∧ L' i = false ∧ leads (wF nx) L' i n = true ∧ h.bl 1 = some (.cells false true (vecB (setB L' i true) n))))) ?_ ?_
      · refine WP_for 12 n (fun j st h => st 1 = LI l ∧ st 2 = .ptr 0 0 ∧ st 5 = I n ∧ st 6 = .sl 1 0 n 1 ∧ st 11 = I i ∧ h.nx = 2 ∧ h.bl 0 = some (.cells false false [LLI nx, LI pay, LI cost]) ∧
            ((st 10 = .bool g ∧ h.bl 1 = some (.cells false true (vecB L' n)) ∧ leads (wF nx) L' i j = false) ∨ (st 10 = .bool true ∧ L' i = false ∧ leads (wF nx) L' i n = true ∧ h.bl 1 = some (.cells false true (vecB (setB L' i true) n))))) (by simp (disch := first | (simp only [go_sem, gb0, eq_self]; done) | omega | (simp only [gl1, gl2]; omega)) only [go_sem, ↓reduceIte, Nat.reduceEqDiff, Nat.reduceAdd, Nat.reduceMul, Nat.reduceSub, Int.reduceToNat, Nat.reduceBEq])
          ⟨by simp (disch := first | (simp only [go_sem, gb0, eq_self]; done) | omega | (simp only [gl1, gl2]; omega)) only [go_sem, ↓reduceIte, Nat.reduceEqDiff, Nat.reduceAdd, Nat.reduceMul, Nat.reduceSub, Int.reduceToNat, Nat.reduceBEq, s1], by simp (disch := first | (simp only [go_sem, gb0, eq_self]; done) | omega | (simp only [gl1, gl2]; omega)) only [go_sem, ↓reduceIte, Nat.reduceEqDiff, Nat.reduceAdd, Nat.reduceMul, Nat.reduceSub, Int.reduceToNat, Nat.reduceBEq, s2], by simp (disch := first | (simp only [go_sem, gb0, eq_self]; done) | omega | (simp only [gl1, gl2]; omega)) only [go_sem, ↓reduceIte, Nat.reduceEqDiff, Nat.reduceAdd, Nat.reduceMul, Nat.reduceSub, Int.reduceToNat, Nat.reduceBEq, s5], by simp (disch := first | (simp only [go_sem, gb0, eq_self]; done) | omega | (simp only [gl1, gl2]; omega)) only [go_sem, ↓reduceIte, Nat.reduceEqDiff, Nat.reduceAdd, Nat.reduceMul, Nat.reduceSub, Int.reduceToNat, Nat.reduceBEq, s6], by simp (disch := first | (simp only [go_sem, gb0, eq_self]; done) | omega | (simp only [gl1, gl2]; omega)) only [go_sem, ↓reduceIte, Nat.reduceEqDiff, Nat.reduceAdd, Nat.reduceMul, Nat.reduceSub, Int.reduceToNat, Nat.reduceBEq, s11], hnx, b0, .inl ⟨by simp (disch := first | (simp only [go_sem, gb0, eq_self]; done) | omega | (simp only [gl1, gl2]; omega)) only [go_sem, ↓reduceIte, Nat.reduceEqDiff, Nat.reduceAdd, Nat.reduceMul, Nat.reduceSub, Int.reduceToNat, Nat.reduceBEq, s10], b1, rfl⟩⟩ ?_
        rintro j st h hj s12 ⟨s1, s2, s5, s6, s11, hnx, b0, hcase⟩
        rcases hcase with ⟨s10, b1, hno⟩ | ⟨s10, hli, hyes, b1⟩
        case inr =>
          have hat := setB_at L' i true
          by_cases hjn : j < n
          · simp (disch := first | (simp only [go_sem, gb0, eq_self]; done) | omega | (simp only [gl1, gl2]; omega)) only [go_sem, ↓reduceIte, Nat.reduceEqDiff, Nat.reduceAdd, Nat.reduceMul, Nat.reduceSub, Int.reduceToNat, Nat.reduceBEq, s1, s2, s5, s6, s10, s11, s12, hjn, hin', hlt, b1, hat]
            refine ⟨hnx, b0, ?_⟩
            right; simp [hli, hyes, b1]
          · simp (disch := first | (simp only [go_sem, gb0, eq_self]; done) | omega | (simp only [gl1, gl2]; omega)) only [go_sem, ↓reduceIte, Nat.reduceEqDiff, Nat.reduceAdd, Nat.reduceMul, Nat.reduceSub, Int.reduceToNat, Nat.reduceBEq, s1, s2, s5, s6, s10, s11, s12, hjn]
            refine ⟨hnx, b0, ?_⟩
            right; simp [hli, hyes, b1]
        by_cases hjn : j < n
        case neg =>
          have hje : j = n := by omega
          subst hje
          simp (disch := first | (simp only [go_sem, gb0, eq_self]; done) | omega | (simp only [gl1, gl2]; omega)) only [go_sem, ↓reduceIte, Nat.reduceEqDiff, Nat.reduceAdd, Nat.reduceMul, Nat.reduceSub, Int.reduceToNat, Nat.reduceBEq, s1, s2, s5, s6, s10, s11, s12, hjn]
          refine ⟨hnx, b0, ?_⟩
          left; simp [hno, b1]
        cases hli : L' i with
        | true =>
          simp (disch := first | (simp only [go_sem, gb0, eq_self]; done) | omega | (simp only [gl1, gl2]; omega)) only [go_sem, ↓reduceIte, Nat.reduceEqDiff, Nat.reduceAdd, Nat.reduceMul, Nat.reduceSub, Int.reduceToNat, Nat.reduceBEq, s1, s2, s5, s6, s10, s11, s12, hjn, hin', hlt, b1, hli]
          refine ⟨hnx, b0, ?_⟩
          left; simp [hli, b1]
        | false =>
          have hjr : j < (nth nx i).length := by omega
          have hjr' : (j : Int) < (nth nx i).length := by omega
          have hjn' : (j : Int) < n := by omega
          have hst := leads_step (wF nx) L' i j
          rw [hno, Bool.false_or] at hst
          by_cases hw : 0 < nth (nth nx i) j
          · have hst2 : leads (wF nx) L' i (j + 1) = L' j := by rw [hst]; show (decide (0 < nth (nth nx i) j) && L' j) = L' j; simp [hw]
            cases hlj : L' j with
            | true =>
              have hall : leads (wF nx) L' i n = true := List.any_eq_true.2 ⟨j, List.mem_range.2 hjn, by show (decide (0 < nth (nth nx i) j) && L' j) = true; simp [hw, hlj]⟩
              simp (disch := first | (simp only [go_sem, gb0, eq_self]; done) | omega | (simp only [gl1, gl2]; omega)) only [go_sem, ↓reduceIte, Nat.reduceEqDiff, Nat.reduceAdd, Nat.reduceMul, Nat.reduceSub, Int.reduceToNat, Nat.reduceBEq, s1, s2, s5, s6, s10, s11, s12, hjn, hin', hlt, b0, b1, hli, hi1, hi1', hjr, hjr', hjn', hw, hlj]
              rw [ForK_normal]
              exact ⟨hjn, by simp (disch := first | (simp only [go_sem, gb0, eq_self]; done) | omega | (simp only [gl1, gl2]; omega)) only [go_sem, ↓reduceIte, Nat.reduceEqDiff, Nat.reduceAdd, Nat.reduceMul, Nat.reduceSub, Int.reduceToNat, Nat.reduceBEq, s12], by simp (disch := first | (simp only [go_sem, gb0, eq_self]; done) | omega | (simp only [gl1, gl2]; omega)) only [go_sem, ↓reduceIte, Nat.reduceEqDiff, Nat.reduceAdd, Nat.reduceMul, Nat.reduceSub, Int.reduceToNat, Nat.reduceBEq, s1], by simp (disch := first | (simp only [go_sem, gb0, eq_self]; done) | omega | (simp only [gl1, gl2]; omega)) only [go_sem, ↓reduceIte, Nat.reduceEqDiff, Nat.reduceAdd, Nat.reduceMul, Nat.reduceSub, Int.reduceToNat, Nat.reduceBEq, s2], by simp (disch := first | (simp only [go_sem, gb0, eq_self]; done) | omega | (simp only [gl1, gl2]; omega)) only [go_sem, ↓reduceIte, Nat.reduceEqDiff, Nat.reduceAdd, Nat.reduceMul, Nat.reduceSub, Int.reduceToNat, Nat.reduceBEq, s5], by simp (disch := first | (simp only [go_sem, gb0, eq_self]; done) | omega | (simp only [gl1, gl2]; omega)) only [go_sem, ↓reduceIte, Nat.reduceEqDiff, Nat.reduceAdd, Nat.reduceMul, Nat.reduceSub, Int.reduceToNat, Nat.reduceBEq, s6], by simp (disch := first | (simp only [go_sem, gb0, eq_self]; done) | omega | (simp only [gl1, gl2]; omega)) only [go_sem, ↓reduceIte, Nat.reduceEqDiff, Nat.reduceAdd, Nat.reduceMul, Nat.reduceSub, Int.reduceToNat, Nat.reduceBEq, s11], by simp (disch := first | (simp only [go_sem, gb0, eq_self]; done) | omega | (simp only [gl1, gl2]; omega)) only [go_sem, ↓reduceIte, Nat.reduceEqDiff, Nat.reduceAdd, Nat.reduceMul, Nat.reduceSub, Int.reduceToNat, Nat.reduceBEq, hnx], by simp (disch := first | (simp only [go_sem, gb0, eq_self]; done) | omega | (simp only [gl1, gl2]; omega)) only [go_sem, ↓reduceIte, Nat.reduceEqDiff, Nat.reduceAdd, Nat.reduceMul, Nat.reduceSub, Int.reduceToNat, Nat.reduceBEq, b0], .inr ⟨by simp (disch := first | (simp only [go_sem, gb0, eq_self]; done) | omega | (simp only [gl1, gl2]; omega)) only [go_sem, ↓reduceIte, Nat.reduceEqDiff, Nat.reduceAdd, Nat.reduceMul, Nat.reduceSub, Int.reduceToNat, Nat.reduceBEq], hall, by simp (disch := first | (simp only [go_sem, gb0, eq_self]; done) | omega | (simp only [gl1, gl2]; omega)) only [go_sem, ↓reduceIte, Nat.reduceEqDiff, Nat.reduceAdd, Nat.reduceMul, Nat.reduceSub, Int.reduceToNat, Nat.reduceBEq]⟩⟩
            | false =>
              simp (disch := first | (simp only [go_sem, gb0, eq_self]; done) | omega | (simp only [gl1, gl2]; omega)) only [go_sem, ↓reduceIte, Nat.reduceEqDiff, Nat.reduceAdd, Nat.reduceMul, Nat.reduceSub, Int.reduceToNat, Nat.reduceBEq, s1, s2, s5, s6, s10, s11, s12, hjn, hin', hlt, b0, b1, hli, hi1, hi1', hjr, hjr', hjn', hw, hlj]
              rw [ForK_normal]
              exact ⟨hjn, by simp (disch := first | (simp only [go_sem, gb0, eq_self]; done) | omega | (simp only [gl1, gl2]; omega)) only [go_sem, ↓reduceIte, Nat.reduceEqDiff, Nat.reduceAdd, Nat.reduceMul, Nat.reduceSub, Int.reduceToNat, Nat.reduceBEq, s12], by simp (disch := first | (simp only [go_sem, gb0, eq_self]; done) | omega | (simp only [gl1, gl2]; omega)) only [go_sem, ↓reduceIte, Nat.reduceEqDiff, Nat.reduceAdd, Nat.reduceMul, Nat.reduceSub, Int.reduceToNat, Nat.reduceBEq, s1], by simp (disch := first | (simp only [go_sem, gb0, eq_self]; done) | omega | (simp only [gl1, gl2]; omega)) only [go_sem, ↓reduceIte, Nat.reduceEqDiff, Nat.reduceAdd, Nat.reduceMul, Nat.reduceSub, Int.reduceToNat, Nat.reduceBEq, s2], by simp (disch := first | (simp only [go_sem, gb0, eq_self]; done) | omega | (simp only [gl1, gl2]; omega)) only [go_sem, ↓reduceIte, Nat.reduceEqDiff, Nat.reduceAdd, Nat.reduceMul, Nat.reduceSub, Int.reduceToNat, Nat.reduceBEq, s5], by simp (disch := first | (simp only [go_sem, gb0, eq_self]; done) | omega | (simp only [gl1, gl2]; omega)) only [go_sem, ↓reduceIte, Nat.reduceEqDiff, Nat.reduceAdd, Nat.reduceMul, Nat.reduceSub, Int.reduceToNat, Nat.reduceBEq, s6], by simp (disch := first | (simp only [go_sem, gb0, eq_self]; done) | omega | (simp only [gl1, gl2]; omega)) only [go_sem, ↓reduceIte, Nat.reduceEqDiff, Nat.reduceAdd, Nat.reduceMul, Nat.reduceSub, Int.reduceToNat, Nat.reduceBEq, s11], by simp (disch := first | (simp only [go_sem, gb0, eq_self]; done) | omega | (simp only [gl1, gl2]; omega)) only [go_sem, ↓reduceIte, Nat.reduceEqDiff, Nat.reduceAdd, Nat.reduceMul, Nat.reduceSub, Int.reduceToNat, Nat.reduceBEq, hnx], by simp (disch := first | (simp only [go_sem, gb0, eq_self]; done) | omega | (simp only [gl1, gl2]; omega)) only [go_sem, ↓reduceIte, Nat.reduceEqDiff, Nat.reduceAdd, Nat.reduceMul, Nat.reduceSub, Int.reduceToNat, Nat.reduceBEq, b0], .inl ⟨by simp (disch := first | (simp only [go_sem, gb0, eq_self]; done) | omega | (simp only [gl1, gl2]; omega)) only [go_sem, ↓reduceIte, Nat.reduceEqDiff, Nat.reduceAdd, Nat.reduceMul, Nat.reduceSub, Int.reduceToNat, Nat.reduceBEq, s10], b1, by rw [hst2, hlj]⟩⟩
          · have hst2 : leads (wF nx) L' i (j + 1) = false := by rw [hst]; show (decide (0 < nth (nth nx i) j) && L' j) = false; simp [hw]
            simp (disch := first | (simp only [go_sem, gb0, eq_self]; done) | omega | (simp only [gl1, gl2]; omega)) only [go_sem, ↓reduceIte, Nat.reduceEqDiff, Nat.reduceAdd, Nat.reduceMul, Nat.reduceSub, Int.reduceToNat, Nat.reduceBEq, s1, s2, s5, s6, s10, s11, s12, hjn, hin', hlt, b0, b1, hli, hi1, hi1', hjr, hjr', hjn', hw]
            rw [ForK_normal]
            exact ⟨hjn, by simp (disch := first | (simp only [go_sem, gb0, eq_self]; done) | omega | (simp only [gl1, gl2]; omega)) only [go_sem, ↓reduceIte, Nat.reduceEqDiff, Nat.reduceAdd, Nat.reduceMul, Nat.reduceSub, Int.reduceToNat, Nat.reduceBEq, s12], by simp (disch := first | (simp only [go_sem, gb0, eq_self]; done) | omega | (simp only [gl1, gl2]; omega)) only [go_sem, ↓reduceIte, Nat.reduceEqDiff, Nat.reduceAdd, Nat.reduceMul, Nat.reduceSub, Int.reduceToNat, Nat.reduceBEq, s1], by simp (disch := first | (simp only [go_sem, gb0, eq_self]; done) | omega | (simp only [gl1, gl2]; omega)) only [go_sem, ↓reduceIte, Nat.reduceEqDiff, Nat.reduceAdd, Nat.reduceMul, Nat.reduceSub, Int.reduceToNat, Nat.reduceBEq, s2], by simp (disch := first | (simp only [go_sem, gb0, eq_self]; done) | omega | (simp only [gl1, gl2]; omega)) only [go_sem, ↓reduceIte, Nat.reduceEqDiff, Nat.reduceAdd, Nat.reduceMul, Nat.reduceSub, Int.reduceToNat, Nat.reduceBEq, s5], by simp (disch := first | (simp only [go_sem, gb0, eq_self]; done) | omega | (simp only [gl1, gl2]; omega)) only [go_sem, ↓reduceIte, Nat.reduceEqDiff, Nat.reduceAdd, Nat.reduceMul, Nat.reduceSub, Int.reduceToNat, Nat.reduceBEq, s6], by simp (disch := first | (simp only [go_sem, gb0, eq_self]; done) | omega | (simp only [gl1, gl2]; omega)) only [go_sem, ↓reduceIte, Nat.reduceEqDiff, Nat.reduceAdd, Nat.reduceMul, Nat.reduceSub, Int.reduceToNat, Nat.reduceBEq, s11], by simp (disch := first | (simp only [go_sem, gb0, eq_self]; done) | omega | (simp only [gl1, gl2]; omega)) only [go_sem, ↓reduceIte, Nat.reduceEqDiff, Nat.reduceAdd, Nat.reduceMul, Nat.reduceSub, Int.reduceToNat, Nat.reduceBEq, hnx], by simp (disch := first | (simp only [go_sem, gb0, eq_self]; done) | omega | (simp only [gl1, gl2]; omega)) only [go_sem, ↓reduceIte, Nat.reduceEqDiff, Nat.reduceAdd, Nat.reduceMul, Nat.reduceSub, Int.reduceToNat, Nat.reduceBEq, b0], .inl ⟨by simp (disch := first | (simp only [go_sem, gb0, eq_self]; done) | omega | (simp only [gl1, gl2]; omega)) only [go_sem, ↓reduceIte, Nat.reduceEqDiff, Nat.reduceAdd, Nat.reduceMul, Nat.reduceSub, Int.reduceToNat, Nat.reduceBEq, s10], b1, hst2⟩⟩
      · rintro st h ⟨s1, s2, s5, s6, s11, hnx, b0, hcase⟩
        rcases hcase with ⟨s10, b1, hno⟩ | ⟨s10, hli, hyes, b1⟩
        · simp (disch := first | (simp only [go_sem, gb0, eq_self]; done) | omega | (simp only [gl1, gl2]; omega)) only [go_sem, ↓reduceIte, Nat.reduceEqDiff, Nat.reduceAdd, Nat.reduceMul, Nat.reduceSub, Int.reduceToNat, Nat.reduceBEq, s1, s2, s5, s6, s10, s11]
          rw [ForK_normal]
          refine ⟨hlt, by simp (disch := first | (simp only [go_sem, gb0, eq_self]; done) | omega | (simp only [gl1, gl2]; omega)) only [go_sem, ↓reduceIte, Nat.reduceEqDiff, Nat.reduceAdd, Nat.reduceMul, Nat.reduceSub, Int.reduceToNat, Nat.reduceBEq, s11], by simp (disch := first | (simp only [go_sem, gb0, eq_self]; done) | omega | (simp only [gl1, gl2]; omega)) only [go_sem, ↓reduceIte, Nat.reduceEqDiff, Nat.reduceAdd, Nat.reduceMul, Nat.reduceSub, Int.reduceToNat, Nat.reduceBEq, s1], by simp (disch := first | (simp only [go_sem, gb0, eq_self]; done) | omega | (simp only [gl1, gl2]; omega)) only [go_sem, ↓reduceIte, Nat.reduceEqDiff, Nat.reduceAdd, Nat.reduceMul, Nat.reduceSub, Int.reduceToNat, Nat.reduceBEq, s2], by simp (disch := first | (simp only [go_sem, gb0, eq_self]; done) | omega | (simp only [gl1, gl2]; omega)) only [go_sem, ↓reduceIte, Nat.reduceEqDiff, Nat.reduceAdd, Nat.reduceMul, Nat.reduceSub, Int.reduceToNat, Nat.reduceBEq, s5], by simp (disch := first | (simp only [go_sem, gb0, eq_self]; done) | omega | (simp only [gl1, gl2]; omega)) only [go_sem, ↓reduceIte, Nat.reduceEqDiff, Nat.reduceAdd, Nat.reduceMul, Nat.reduceSub, Int.reduceToNat, Nat.reduceBEq, s6], hnx, b0, g, L', by simp (disch := first | (simp only [go_sem, gb0, eq_self]; done) | omega | (simp only [gl1, gl2]; omega)) only [go_sem, ↓reduceIte, Nat.reduceEqDiff, Nat.reduceAdd, Nat.reduceMul, Nat.reduceSub, Int.reduceToNat, Nat.reduceBEq, s10], b1, hL', hsub', hg1, fun h => ?_⟩
          obtain ⟨e, s⟩ := hg2 h
          refine ⟨e, fun k hk hlk => ?_⟩
          by_cases hki : k = i
          · subst hki
            rw [← e] at hlk ⊢
            rcases hno with hno | hno
            · rw [hlk] at hno; cases hno
            · refine ⟨h4 k hlt ?_, leads_no hno⟩
              cases hl0 : L0 k with
              | false => rfl
              | true => rw [hsub' k hlt hl0] at hlk; cases hlk
          · exact s k (by omega) hlk
        · simp (disch := first | (simp only [go_sem, gb0, eq_self]; done) | omega | (simp only [gl1, gl2]; omega)) only [go_sem, ↓reduceIte, Nat.reduceEqDiff, Nat.reduceAdd, Nat.reduceMul, Nat.reduceSub, Int.reduceToNat, Nat.reduceBEq, s1, s2, s5, s6, s10, s11]
          rw [ForK_normal]
          refine ⟨hlt, by simp (disch := first | (simp only [go_sem, gb0, eq_self]; done) | omega | (simp only [gl1, gl2]; omega)) only [go_sem, ↓reduceIte, Nat.reduceEqDiff, Nat.reduceAdd, Nat.reduceMul, Nat.reduceSub, Int.reduceToNat, Nat.reduceBEq, s11], by simp (disch := first | (simp only [go_sem, gb0, eq_self]; done) | omega | (simp only [gl1, gl2]; omega)) only [go_sem, ↓reduceIte, Nat.reduceEqDiff, Nat.reduceAdd, Nat.reduceMul, Nat.reduceSub, Int.reduceToNat, Nat.reduceBEq, s1], by simp (disch := first | (simp only [go_sem, gb0, eq_self]; done) | omega | (simp only [gl1, gl2]; omega)) only [go_sem, ↓reduceIte, Nat.reduceEqDiff, Nat.reduceAdd, Nat.reduceMul, Nat.reduceSub, Int.reduceToNat, Nat.reduceBEq, s2], by simp (disch := first | (simp only [go_sem, gb0, eq_self]; done) | omega | (simp only [gl1, gl2]; omega)) only [go_sem, ↓reduceIte, Nat.reduceEqDiff, Nat.reduceAdd, Nat.reduceMul, Nat.reduceSub, Int.reduceToNat, Nat.reduceBEq, s5], by simp (disch := first | (simp only [go_sem, gb0, eq_self]; done) | omega | (simp only [gl1, gl2]; omega)) only [go_sem, ↓reduceIte, Nat.reduceEqDiff, Nat.reduceAdd, Nat.reduceMul, Nat.reduceSub, Int.reduceToNat, Nat.reduceBEq, s6], hnx, b0, true, setB L' i true, by simp (disch := first | (simp only [go_sem, gb0, eq_self]; done) | omega | (simp only [gl1, gl2]; omega)) only [go_sem, ↓reduceIte, Nat.reduceEqDiff, Nat.reduceAdd, Nat.reduceMul, Nat.reduceSub, Int.reduceToNat, Nat.reduceBEq, s10], b1, hL'.grow CC hlt (by rw [hyes]; rfl), fun k hk hl0 => ?_, fun _ => ?_, fun h => by cases h⟩
          · unfold setB; split
            · rfl
            · exact hsub' k hk hl0
          · have := cntF_set hi6 hli; omega
    · rintro st h ⟨s1, s2, s5, s6, hnx, b0, g, L', s10, b1, hL', hsub', hg1, hg2⟩
      rw [BlockK_normal, LoopK_normal]
      refine ⟨if g then cntF L' + 1 else 0, ?_, g, L', rfl, s1, s2, s5, s6, s10, hnx, b0, b1, hL', hsub', hg2⟩
      cases g with
      | true => have := hg1 rfl; simp only [if_true]; omega
      | false => simp
  · rintro st h ⟨s1, s2, s5, s6, L, b1, hL, hS⟩
    have hsd := hL.sound hS
    have hres : ∀ b, (b = true ↔ ∀ i, i < n → L i = true) → sndB n (wF nx) (xOf n l) = b := fun b hb => by
      have : sndB n (wF nx) (xOf n l) = true ↔ b = true := by rw [sndB_iff, hsd, hb]
      cases b with
      | true => exact this.2 rfl
      | false => exact Bool.eq_false_iff.2 fun h => by cases this.1 h
    simp (disch := first | (simp only [go_sem, gb0, eq_self]; done) | omega | (simp only [gl1, gl2]; omega)) only [go_sem, ↓reduceIte, Nat.reduceEqDiff, Nat.reduceAdd, Nat.reduceMul, Nat.reduceSub, Int.reduceToNat, Nat.reduceBEq, s1, s2, s5, s6]
    refine WP_for 13 n (fun i st h => st 5 = I n ∧ st 6 = .sl 1 0 n 1 ∧ h.bl 1 = some (.cells false true (vecB L n)) ∧ ∀ k, k < i → L k = true) (by simp (disch := first | (simp only [go_sem, gb0, eq_self]; done) | omega | (simp only [gl1, gl2]; omega)) only [go_sem, ↓reduceIte, Nat.reduceEqDiff, Nat.reduceAdd, Nat.reduceMul, Nat.reduceSub, Int.reduceToNat, Nat.reduceBEq]) ⟨by simp (disch := first | (simp only [go_sem, gb0, eq_self]; done) | omega | (simp only [gl1, gl2]; omega)) only [go_sem, ↓reduceIte, Nat.reduceEqDiff, Nat.reduceAdd, Nat.reduceMul, Nat.reduceSub, Int.reduceToNat, Nat.reduceBEq, s5], by simp (disch := first | (simp only [go_sem, gb0, eq_self]; done) | omega | (simp only [gl1, gl2]; omega)) only [go_sem, ↓reduceIte, Nat.reduceEqDiff, Nat.reduceAdd, Nat.reduceMul, Nat.reduceSub, Int.reduceToNat, Nat.reduceBEq, s6], b1, fun k hk => by omega⟩ ?_
    rintro i st h hi s13 ⟨s5, s6, b1, hall⟩
    by_cases hlt : i < n
    case neg =>
      have hr := hres true ⟨fun _ k hk => hall k (by omega), fun _ => rfl⟩
      simp (disch := first | (simp only [go_sem, gb0, eq_self]; done) | omega | (simp only [gl1, gl2]; omega)) only [go_sem, ↓reduceIte, Nat.reduceEqDiff, Nat.reduceAdd, Nat.reduceMul, Nat.reduceSub, Int.reduceToNat, Nat.reduceBEq, s5, s6, s13, hlt, hr]
    have hin' : (i : Int) < n := by omega
    cases hli : L i with
    | true =>
      simp (disch := first | (simp only [go_sem, gb0, eq_self]; done) | omega | (simp only [gl1, gl2]; omega)) only [go_sem, ↓reduceIte, Nat.reduceEqDiff, Nat.reduceAdd, Nat.reduceMul, Nat.reduceSub, Int.reduceToNat, Nat.reduceBEq, s5, s6, s13, hlt, hin', b1, hli]
      rw [ForK_normal]
      refine ⟨hlt, by simp (disch := first | (simp only [go_sem, gb0, eq_self]; done) | omega | (simp only [gl1, gl2]; omega)) only [go_sem, ↓reduceIte, Nat.reduceEqDiff, Nat.reduceAdd, Nat.reduceMul, Nat.reduceSub, Int.reduceToNat, Nat.reduceBEq, s13], by simp (disch := first | (simp only [go_sem, gb0, eq_self]; done) | omega | (simp only [gl1, gl2]; omega)) only [go_sem, ↓reduceIte, Nat.reduceEqDiff, Nat.reduceAdd, Nat.reduceMul, Nat.reduceSub, Int.reduceToNat, Nat.reduceBEq, s5], by simp (disch := first | (simp only [go_sem, gb0, eq_self]; done) | omega | (simp only [gl1, gl2]; omega)) only [go_sem, ↓reduceIte, Nat.reduceEqDiff, Nat.reduceAdd, Nat.reduceMul, Nat.reduceSub, Int.reduceToNat, Nat.reduceBEq, s6], b1, fun k hk => ?_⟩
      by_cases hki : k = i
      · subst hki; exact hli
      · exact hall k (by omega)
    | false =>
      have hr := hres false ⟨fun h => (by cases h), fun h => (by rw [h i hlt] at hli; cases hli)⟩
      simp (disch := first | (simp only [go_sem, gb0, eq_self]; done) | omega | (simp only [gl1, gl2]; omega)) only [go_sem, ↓reduceIte, Nat.reduceEqDiff, Nat.reduceAdd, Nat.reduceMul, Nat.reduceSub, Int.reduceToNat, Nat.reduceBEq, s5, s6, s13, hlt, hin', b1, hli, hr]
end Go.Proofs.Ytgamcclfdkpcgaa

set_option linter.unusedVariables false
set_option linter.unusedSimpArgs false
set_option maxRecDepth 10000
namespace Go.Proofs.Ytgamcclfdkpcgaa
open Go Go.Am

variable {h h' : Hp} {K : AV → Hp → Prop}

/-- The numbers below m with a property. -/
def filtL (P : Nat → Bool) (m : Nat) : List Int := ((List.range m).filter P).map fun k : Nat => (k : Int)
theorem filtL_succ (P : Nat → Bool) (m : Nat) : filtL P (m + 1) = if P m then filtL P m ++ [(m : Int)] else filtL P m := by
  unfold filtL
  rw [List.range_succ, List.filter_append, List.map_append]
  cases hp : P m <;> simp [List.filter_cons, hp]
theorem filtL_len (P : Nat → Bool) (m : Nat) : (filtL P m).length ≤ m := by
  unfold filtL
  rw [List.length_map]
  have := List.length_filter_le P (List.range m)
  rwa [List.length_range] at this
theorem filtL_has (P : Nat → Bool) {n i : Nat} (hi : i < n) : hasB (filtL P n) i = P i := by
  unfold hasB filtL
  rw [List.any_map]
  cases hp : P i with
  | true => exact List.any_eq_true.2 ⟨i, List.mem_filter.2 ⟨List.mem_range.2 hi, hp⟩, by simp⟩
  | false =>
    refine List.any_eq_false.2 fun k hk => ?_
    have h1 := (List.mem_filter.1 hk).2
    simp only [Function.comp, decide_eq_true_eq]
    intro e
    have : k = i := by omega
    rw [this, hp] at h1; cases h1
theorem store_pair (id i : Nat) (row : Bool) (ps : List (Int × Int)) (a b : Int) (hi : i < ps.length) :
    storeC h id (i * 2) 2 (some (.cells false row (ps.flatMap eP))) [I a, I b] = some (.skp, h.put id (some (.cells false row ((ps.set i (a, b)).flatMap eP)))) := by
  have hl : (ps.flatMap eP).length = ps.length * 2 := flatMap_len (f := eP) (sz := 2) ps
  rw [storeC_many id _ 2 row _ _ rfl rfl (by rw [hl]; omega)]
  congr 5
  simp only [setL]
  clear hl
  induction ps generalizing i with
  | nil => simp at hi
  | cons p ps ih =>
    cases i with
    | zero => rfl
    | succ i =>
      have := ih i (by simpa using hi)
      rw [show (i + 1) * 2 = i * 2 + 1 + 1 by omega, List.flatMap_cons, List.set_cons_succ, List.flatMap_cons, ← this]
      simp only [eP_apply, List.cons_append, List.nil_append, List.set_cons_succ]
theorem load_pair (d : TypeDesc) (hd : aggD d = true) (ps : List (Int × Int)) (i : Nat) (hi : i < ps.length) : loadC (some d) (some 2) (some (ps.flatMap eP, i * 2)) = some (.agg [I (nth ps i).1, I (nth ps i).2]) := by
  have hl : (ps.flatMap eP).length = ps.length * 2 := flatMap_len (f := eP) (sz := 2) ps
  rw [loadC_agg d 2 hd _ _ (by rw [hl]; omega)]
  congr 2
  clear hl
  induction ps generalizing i with
  | nil => simp at hi
  | cons p ps ih =>
    cases i with
    | zero => rfl
    | succ i =>
      have := ih i (by simpa using hi)
      rw [show (i + 1) * 2 = i * 2 + 1 + 1 by omega, List.flatMap_cons]
      simp only [eP_apply, List.cons_append, List.nil_append, List.drop_succ_cons]
      rw [this]; rfl
theorem stepL_len {n : Nat} {b v : List (Int × Int)} {m : Nat} : (stepL n b v m).length = if b.length < n then m else n := by
  unfold stepL; split <;> simp
theorem stepL_app {n : Nat} {b v : List (Int × Int)} {m : Nat} (h : b.length < n) : stepL n b v (m + 1) = stepL n b v m ++ [nth v m] := by
  unfold stepL; rw [if_pos h, if_pos h, rows_snoc]
theorem stepL_nth {n : Nat} {b v : List (Int × Int)} {m k : Nat} (h : ¬ b.length < n) (hk : k < n) : nth (stepL n b v m) k = if k < m ∧ lessP (nth b k) (nth v k) = true then nth v k else nth b k := by
  unfold stepL; rw [if_neg h, nth_map_range _ _ _ hk]
theorem stepL_set {n : Nat} {b v : List (Int × Int)} {m : Nat} (h : ¬ b.length < n) (hm : m < n) (hl : lessP (nth b m) (nth v m) = true) : (stepL n b v m).set m ((nth v m).1, (nth v m).2) = stepL n b v (m + 1) := by
  refine list_ext_nth (by rw [List.length_set, stepL_len, stepL_len, if_neg h, if_neg h]) fun k hk => ?_
  rw [List.length_set, stepL_len, if_neg h] at hk
  rw [nth_set _ _ _ _ (by rw [stepL_len, if_neg h]; exact hm), stepL_nth h hk, stepL_nth h hk]
  by_cases hkm : m = k
  · subst hkm; rw [if_pos rfl, if_pos ⟨by omega, hl⟩]
  · rw [if_neg hkm]
    have : (k < m) ↔ (k < m + 1) := by omega
    simp only [this]
theorem stepL_same {n : Nat} {b v : List (Int × Int)} {m : Nat} (h : ¬ b.length < n) (hl : lessP (nth b m) (nth v m) = false) : stepL n b v (m + 1) = stepL n b v m := by
  refine list_ext_nth (by rw [stepL_len, stepL_len, if_neg h, if_neg h]) fun k hk => ?_
  rw [stepL_len, if_neg h] at hk
  rw [stepL_nth h hk, stepL_nth h hk]
  by_cases hkm : k = m
  · subst hkm; rw [hl]; simp
  · have : (k < m) ↔ (k < m + 1) := by omega
    simp only [this]
theorem shr_rem (x i : Nat) : ((x >>> i : Nat) : Int).tmod 2 = if x.testBit i then 1 else 0 := by
  rw [Nat.testBit_eq_decide_div_mod_eq, Nat.shiftRight_eq_div_pow]
  generalize x / 2 ^ i = y
  rw [Int.tmod_eq_emod_of_nonneg (show (0 : Int) ≤ (y : Int) by omega)]
  by_cases h : y % 2 = 1
  · simp only [h, decide_true, if_true]; omega
  · simp only [h, decide_false, Bool.false_eq_true, if_false]; omega
def stopsL (n : Nat) (pay : List Int) (b : List (Int × Int)) (m : Nat) : List Int := filtL (fun i => decide ((nth b i).1 = nth pay i) && decide ((nth b i).2 = 1)) m

theorem export_own2 {α β : Type} {f : α → List AV} {sz : Nat} [RowEnc f sz] {g : β → List AV} {tz : Nat} [RowEnc g tz] (t u : TypeId) {v w : AV} {xs : List α} {ys : List β} (o : Go.Am.Own f sz h v xs) (q : Go.Am.Own g tz h w ys) (d : Dis v w) :
    ex2 (sealA h v) w = some (.tup [L f xs, L g ys]) := by
  obtain ⟨g1, r1, n1, b1⟩ := sealA_Own o
  have q1 : Go.Am.Own g tz g1 w ys := by
    rcases q with q | ⟨id, e, hi, hc⟩
    · exact .inl q
    · refine .inr ⟨id, e, by omega, ?_⟩
      rw [b1 id fun id' off n sz' e' => (d _ _ _ _ _ _ _ _ e' e).symm]; exact hc
  obtain ⟨g2, r2, _, _⟩ := sealA_Own q1
  rw [r1, ex2_some, r2, ex1_some]
theorem f37_con {nx : List (List Int)} {pay cost : List Int} (C : okC nx pay cost) :
    Con Try.prog cfg 37 [chA nx pay cost] (.tup [LP (bestL nx pay cost), LI (stopsL nx.length pay (bestL nx pay cost) nx.length)]) := by
  obtain ⟨n, hn⟩ : ∃ n, n = nx.length := ⟨_, rfl⟩
  have hn1 := C.n1
  have hn6 := C.n6
  have hlp := C.lp
  have ml : maxLen = 9223372036854775807 := by decide
  have hal : ∀ g : Hp, allocB g (some (chA nx pay cost)) = some (.ptr g.nx 0, g.alloc (.cells false false [LLI nx, LI pay, LI cost])) := fun g => allocB_agg _ rfl
  have hse : ∀ h : Hp, sealA h (chA nx pay cost) = some (chA nx pay cost, h) := fun h => sealA_agg _ (by simp only [AV.pureL, pure_L, Bool.and_true])
  have hN6 : 2 ^ n ≤ 64 := by have := Nat.pow_le_pow_right (n := 2) (by decide) (show n ≤ 6 by omega); omega
  have esh := shl_one (P := Try.prog) 3 n (by omega)
  obtain ⟨N, hN⟩ : ∃ N, N = 2 ^ n := ⟨_, rfl⟩
  rw [← hN] at esh hN6
  have hbe := bestR_eq C
  rw [← hn, ← hN] at hbe
  refine Con_intro Try.func37 rfl ok37 (Nat.le_of_ble_eq_true rfl) rfl ?_
  simp only [Try.f37, Option.getD_some, initSt1]
  simp (disch := first | (simp only [go_sem, gb0, eq_self]; done) | omega | (simp only [gl1, gl2]; omega)) only [go_sem, ↓reduceIte, Nat.reduceEqDiff, Nat.reduceAdd, Nat.reduceMul, Nat.reduceSub, Int.reduceToNat, Nat.reduceBEq, hal]
  refine WP_cut (fun st h => st 1 = .ptr 0 0 ∧ st 4 = I n ∧ 1 ≤ h.nx ∧ h.bl 0 = some (.cells false false [LLI nx, LI pay, LI cost]) ∧ ∃ v, st 5 = v ∧ OwnGe 1 eP 2 h v (bestL nx pay cost)) ?_ ?_
  · refine WP_for 6 N (fun m st h => st 1 = .ptr 0 0 ∧ st 4 = I n ∧ 1 ≤ h.nx ∧ h.bl 0 = some (.cells false false [LLI nx, LI pay, LI cost]) ∧ ∃ v, st 5 = v ∧ OwnGe 1 eP 2 h v (bestR nx pay cost m)) (by simp (disch := first | (simp only [go_sem, gb0, eq_self]; done) | omega | (simp only [gl1, gl2]; omega)) only [go_sem, ↓reduceIte, Nat.reduceEqDiff, Nat.reduceAdd, Nat.reduceMul, Nat.reduceSub, Int.reduceToNat, Nat.reduceBEq]) ⟨by simp (disch := first | (simp only [go_sem, gb0, eq_self]; done) | omega | (simp only [gl1, gl2]; omega)) only [go_sem, ↓reduceIte, Nat.reduceEqDiff, Nat.reduceAdd, Nat.reduceMul, Nat.reduceSub, Int.reduceToNat, Nat.reduceBEq], by simp (disch := first | (simp only [go_sem, gb0, eq_self]; done) | omega | (simp only [gl1, gl2]; omega)) only [go_sem, ↓reduceIte, Nat.reduceEqDiff, Nat.reduceAdd, Nat.reduceMul, Nat.reduceSub, Int.reduceToNat, Nat.reduceBEq, hn], by simp (disch := first | (simp only [go_sem, gb0, eq_self]; done) | omega | (simp only [gl1, gl2]; omega)) only [go_sem, ↓reduceIte, Nat.reduceEqDiff, Nat.reduceAdd, Nat.reduceMul, Nat.reduceSub, Int.reduceToNat, Nat.reduceBEq]; decide, by simp (disch := first | (simp only [go_sem, gb0, eq_self]; done) | omega | (simp only [gl1, gl2]; omega)) only [go_sem, ↓reduceIte, Nat.reduceEqDiff, Nat.reduceAdd, Nat.reduceMul, Nat.reduceSub, Int.reduceToNat, Nat.reduceBEq], .nil, by simp (disch := first | (simp only [go_sem, gb0, eq_self]; done) | omega | (simp only [gl1, gl2]; omega)) only [go_sem, ↓reduceIte, Nat.reduceEqDiff, Nat.reduceAdd, Nat.reduceMul, Nat.reduceSub, Int.reduceToNat, Nat.reduceBEq], .inl ⟨rfl, rfl⟩⟩ ?_
    rintro m st h hm s6 ⟨s1, s4, hnx, b0, v, s5, ov⟩
    by_cases hlt : m < N
    case neg =>
      have hme : m = N := by omega
      rw [hme, hbe] at ov
      simp (disch := first | (simp only [go_sem, gb0, eq_self]; done) | omega | (simp only [gl1, gl2]; omega)) only [go_sem, ↓reduceIte, Nat.reduceEqDiff, Nat.reduceAdd, Nat.reduceMul, Nat.reduceSub, Int.reduceToNat, Nat.reduceBEq, s1, s4, s5, s6, esh, hlt]
      exact ⟨hnx, b0, _, rfl, ov⟩
    have BI := bestR_inv C m
    simp (disch := first | (simp only [go_sem, gb0, eq_self]; done) | omega | (simp only [gl1, gl2]; omega)) only [go_sem, ↓reduceIte, Nat.reduceEqDiff, Nat.reduceAdd, Nat.reduceMul, Nat.reduceSub, Int.reduceToNat, Nat.reduceBEq, s1, s4, s5, s6, esh, hlt]
    -- the rule as a list
    obtain ⟨B, hB⟩ : ∃ B, B = h.nx := ⟨_, rfl⟩
    refine WP_cut (fun st g => st 1 = .ptr 0 0 ∧ st 4 = I n ∧ st 5 = v ∧ st 6 = I m ∧ B ≤ g.nx ∧ (∀ id, id < B → g.bl id = h.bl id) ∧ ∃ y, st 7 = y ∧ OwnGe B (e1 I) 1 g y (filtL (ruleB m) n)) ?_ ?_
    · refine WP_for 8 n (fun i st g => st 1 = .ptr 0 0 ∧ st 4 = I n ∧ st 5 = v ∧ st 6 = I m ∧ B ≤ g.nx ∧ (∀ id, id < B → g.bl id = h.bl id) ∧ ∃ y, st 7 = y ∧ OwnGe B (e1 I) 1 g y (filtL (ruleB m) i)) (by simp (disch := first | (simp only [go_sem, gb0, eq_self]; done) | omega | (simp only [gl1, gl2]; omega)) only [go_sem, ↓reduceIte, Nat.reduceEqDiff, Nat.reduceAdd, Nat.reduceMul, Nat.reduceSub, Int.reduceToNat, Nat.reduceBEq])
        ⟨by simp (disch := first | (simp only [go_sem, gb0, eq_self]; done) | omega | (simp only [gl1, gl2]; omega)) only [go_sem, ↓reduceIte, Nat.reduceEqDiff, Nat.reduceAdd, Nat.reduceMul, Nat.reduceSub, Int.reduceToNat, Nat.reduceBEq, s1], by simp (disch := first | (simp only [go_sem, gb0, eq_self]; done) | omega | (simp only [gl1, gl2]; omega)) only [go_sem, ↓reduceIte, Nat.reduceEqDiff, Nat.reduceAdd, Nat.reduceMul, Nat.reduceSub, Int.reduceToNat, Nat.reduceBEq, s4], by simp (disch := first | (simp only [go_sem, gb0, eq_self]; done) | omega | (simp only [gl1, gl2]; omega)) only [go_sem, ↓reduceIte, Nat.reduceEqDiff, Nat.reduceAdd, Nat.reduceMul, Nat.reduceSub, Int.reduceToNat, Nat.reduceBEq, s5], by simp (disch := first | (simp only [go_sem, gb0, eq_self]; done) | omega | (simp only [gl1, gl2]; omega)) only [go_sem, ↓reduceIte, Nat.reduceEqDiff, Nat.reduceAdd, Nat.reduceMul, Nat.reduceSub, Int.reduceToNat, Nat.reduceBEq, s6], by omega, fun _ _ => rfl, .nil, by simp (disch := first | (simp only [go_sem, gb0, eq_self]; done) | omega | (simp only [gl1, gl2]; omega)) only [go_sem, ↓reduceIte, Nat.reduceEqDiff, Nat.reduceAdd, Nat.reduceMul, Nat.reduceSub, Int.reduceToNat, Nat.reduceBEq], .inl ⟨rfl, rfl⟩⟩ ?_
      rintro i st g hi s8 ⟨s1, s4, s5, s6, hgn, hgo, y, s7, oy⟩
      by_cases hin : i < n
      case neg =>
        have hie : i = n := by omega
        subst hie
        simp (disch := first | (simp only [go_sem, gb0, eq_self]; done) | omega | (simp only [gl1, gl2]; omega)) only [go_sem, ↓reduceIte, Nat.reduceEqDiff, Nat.reduceAdd, Nat.reduceMul, Nat.reduceSub, Int.reduceToNat, Nat.reduceBEq, s1, s4, s5, s6, s7, s8, hin]
        exact ⟨hgn, hgo, _, rfl, oy⟩
      have hsh := shr_nat (P := Try.prog) 3 m i (by omega)
      have hsl : m >>> i < 9223372036854775808 := by rw [Nat.shiftRight_eq_div_pow]; exact Nat.lt_of_le_of_lt (Nat.div_le_self _ _) (by omega)
      have hrm := shr_rem m i
      have hfs := filtL_succ (ruleB m) i
      have hfl := filtL_len (ruleB m) i
      have n20 : ¬ (2 : Int) = 0 := by decide
      cases hb : m.testBit i with
      | false =>
        have hrb : ruleB m i = false := hb
        rw [hb] at hrm
        rw [hrb] at hfs
        have hrm' : ((m >>> i : Nat) : Int).tmod 2 = 0 := hrm
        have hfs' : filtL (ruleB m) (i + 1) = filtL (ruleB m) i := hfs
        have e01 : ¬ (0 : Int) = 1 := by decide
        simp (disch := first | (simp only [go_sem, gb0, eq_self]; done) | omega | (simp only [gl1, gl2]; omega)) only [go_sem, ↓reduceIte, Nat.reduceEqDiff, Nat.reduceAdd, Nat.reduceMul, Nat.reduceSub, Int.reduceToNat, Nat.reduceBEq, s1, s4, s5, s6, s7, s8, hin, hsh, hrm', n20, e01]
        rw [ForK_normal]
        exact ⟨hin, by simp (disch := first | (simp only [go_sem, gb0, eq_self]; done) | omega | (simp only [gl1, gl2]; omega)) only [go_sem, ↓reduceIte, Nat.reduceEqDiff, Nat.reduceAdd, Nat.reduceMul, Nat.reduceSub, Int.reduceToNat, Nat.reduceBEq, s8], by simp (disch := first | (simp only [go_sem, gb0, eq_self]; done) | omega | (simp only [gl1, gl2]; omega)) only [go_sem, ↓reduceIte, Nat.reduceEqDiff, Nat.reduceAdd, Nat.reduceMul, Nat.reduceSub, Int.reduceToNat, Nat.reduceBEq, s1], by simp (disch := first | (simp only [go_sem, gb0, eq_self]; done) | omega | (simp only [gl1, gl2]; omega)) only [go_sem, ↓reduceIte, Nat.reduceEqDiff, Nat.reduceAdd, Nat.reduceMul, Nat.reduceSub, Int.reduceToNat, Nat.reduceBEq, s4], by simp (disch := first | (simp only [go_sem, gb0, eq_self]; done) | omega | (simp only [gl1, gl2]; omega)) only [go_sem, ↓reduceIte, Nat.reduceEqDiff, Nat.reduceAdd, Nat.reduceMul, Nat.reduceSub, Int.reduceToNat, Nat.reduceBEq, s5], by simp (disch := first | (simp only [go_sem, gb0, eq_self]; done) | omega | (simp only [gl1, gl2]; omega)) only [go_sem, ↓reduceIte, Nat.reduceEqDiff, Nat.reduceAdd, Nat.reduceMul, Nat.reduceSub, Int.reduceToNat, Nat.reduceBEq, s6], hgn, hgo, y, by simp (disch := first | (simp only [go_sem, gb0, eq_self]; done) | omega | (simp only [gl1, gl2]; omega)) only [go_sem, ↓reduceIte, Nat.reduceEqDiff, Nat.reduceAdd, Nat.reduceMul, Nat.reduceSub, Int.reduceToNat, Nat.reduceBEq, s7], by rw [hfs']; exact oy⟩
      | true =>
        have hrb : ruleB m i = true := hb
        rw [hb] at hrm
        rw [hrb] at hfs
        have hrm' : ((m >>> i : Nat) : Int).tmod 2 = 1 := hrm
        have hfs' : filtL (ruleB m) (i + 1) = filtL (ruleB m) i ++ [(i : Int)] := hfs
        have hbs := fun h => bsB_one (P := Try.prog) 3 (I i) (I i) (I 0) h isz3 izero3 rfl rfl rfl rfl rfl rfl rfl
        have happ := app_one (P := Try.prog) oy.own 3 8 (I 0) (i : Int) isz3 ibytes3 izero3 rfl (by omega) (by omega)
        have ln : B ≤ (appH g y ((filtL (ruleB m) i ++ [(i : Int)]).flatMap (e1 I))).nx := by rw [appH_nx]; omega
        have lo : OwnGe B (e1 I) 1 (appH g y ((filtL (ruleB m) i ++ [(i : Int)]).flatMap (e1 I))) (appV g (filtL (ruleB m) i ++ [(i : Int)]).length 1) (filtL (ruleB m) (i + 1)) := by
          rw [hfs']
          exact OwnGe.app _ hgn _
        have ll : ∀ id, id < B → (appH g y ((filtL (ruleB m) i ++ [(i : Int)]).flatMap (e1 I))).bl id = h.bl id := fun id hid => by
          rw [oy.low hid (by omega)]; exact hgo id hid
        generalize appH g y ((filtL (ruleB m) i ++ [(i : Int)]).flatMap (e1 I)) = G at *
        generalize appV g (filtL (ruleB m) i ++ [(i : Int)]).length 1 = u at *
        simp (disch := first | (simp only [go_sem, gb0, eq_self]; done) | omega | (simp only [gl1, gl2]; omega)) only [go_sem, ↓reduceIte, Nat.reduceEqDiff, Nat.reduceAdd, Nat.reduceMul, Nat.reduceSub, Int.reduceToNat, Nat.reduceBEq, s1, s4, s5, s6, s7, s8, hin, hsh, hrm', n20, eq_self, decide_true, hbs, happ]
        rw [ForK_normal]
        exact ⟨hin, by simp (disch := first | (simp only [go_sem, gb0, eq_self]; done) | omega | (simp only [gl1, gl2]; omega)) only [go_sem, ↓reduceIte, Nat.reduceEqDiff, Nat.reduceAdd, Nat.reduceMul, Nat.reduceSub, Int.reduceToNat, Nat.reduceBEq, s8], by simp (disch := first | (simp only [go_sem, gb0, eq_self]; done) | omega | (simp only [gl1, gl2]; omega)) only [go_sem, ↓reduceIte, Nat.reduceEqDiff, Nat.reduceAdd, Nat.reduceMul, Nat.reduceSub, Int.reduceToNat, Nat.reduceBEq, s1], by simp (disch := first | (simp only [go_sem, gb0, eq_self]; done) | omega | (simp only [gl1, gl2]; omega)) only [go_sem, ↓reduceIte, Nat.reduceEqDiff, Nat.reduceAdd, Nat.reduceMul, Nat.reduceSub, Int.reduceToNat, Nat.reduceBEq, s4], by simp (disch := first | (simp only [go_sem, gb0, eq_self]; done) | omega | (simp only [gl1, gl2]; omega)) only [go_sem, ↓reduceIte, Nat.reduceEqDiff, Nat.reduceAdd, Nat.reduceMul, Nat.reduceSub, Int.reduceToNat, Nat.reduceBEq, s5], by simp (disch := first | (simp only [go_sem, gb0, eq_self]; done) | omega | (simp only [gl1, gl2]; omega)) only [go_sem, ↓reduceIte, Nat.reduceEqDiff, Nat.reduceAdd, Nat.reduceMul, Nat.reduceSub, Int.reduceToNat, Nat.reduceBEq, s6], ln, ll, _, by simp (disch := first | (simp only [go_sem, gb0, eq_self]; done) | omega | (simp only [gl1, gl2]; omega)) only [go_sem, ↓reduceIte, Nat.reduceEqDiff, Nat.reduceAdd, Nat.reduceMul, Nat.reduceSub, Int.reduceToNat, Nat.reduceBEq], lo⟩
    rintro st g ⟨s1, s4, s5, s6, hgn, hgo, y, s7, oy⟩
    obtain ⟨l, hl⟩ : ∃ l, l = filtL (ruleB m) n := ⟨_, rfl⟩
    have hll : l.length ≤ maxLen := by have := filtL_len (ruleB m) n; rw [hl]; omega
    have hxr : ∀ i, i < nx.length → ruleB (xOf nx.length l) i = ruleB m i := fun i hi => by rw [xOf_bit l hi, hl, filtL_has _ (by omega)]
    have hsb : sndB nx.length (wF nx) (xOf nx.length l) = sndB nx.length (wF nx) m := sndB_congr hxr
    have hvl : valL nx pay cost (xOf nx.length l) = valL nx pay cost m := valL_congr hxr
    rw [← hl] at oy
    obtain ⟨g2, hsy, hg2n, hg2o⟩ := sealA_Own oy.own
    have g0 : g.bl 0 = some (.cells false false [LLI nx, LI pay, LI cost]) := (hgo 0 (by omega)).trans b0
    have k32 := fun h h' K => ConW_num (h := h) (h' := h') (K := K) (f32_con C l hll) rfl
    rw [hsb] at k32
    cases hs : sndB nx.length (wF nx) m with
    | false =>
      have hbr : bestR nx pay cost (m + 1) = bestR nx pay cost m := by rw [bestR, hs]; rfl
      simp (disch := first | (simp only [go_sem, gb0, eq_self]; done) | omega | (simp only [gl1, gl2]; omega)) only [go_sem, ↓reduceIte, Nat.reduceEqDiff, Nat.reduceAdd, Nat.reduceMul, Nat.reduceSub, Int.reduceToNat, Nat.reduceBEq, s1, s4, s5, s6, s7, g0, hse, hsy, k32, hs]
      rw [ForK_normal]
      exact ⟨hlt, by simp (disch := first | (simp only [go_sem, gb0, eq_self]; done) | omega | (simp only [gl1, gl2]; omega)) only [go_sem, ↓reduceIte, Nat.reduceEqDiff, Nat.reduceAdd, Nat.reduceMul, Nat.reduceSub, Int.reduceToNat, Nat.reduceBEq, s6], by simp (disch := first | (simp only [go_sem, gb0, eq_self]; done) | omega | (simp only [gl1, gl2]; omega)) only [go_sem, ↓reduceIte, Nat.reduceEqDiff, Nat.reduceAdd, Nat.reduceMul, Nat.reduceSub, Int.reduceToNat, Nat.reduceBEq, s1], by simp (disch := first | (simp only [go_sem, gb0, eq_self]; done) | omega | (simp only [gl1, gl2]; omega)) only [go_sem, ↓reduceIte, Nat.reduceEqDiff, Nat.reduceAdd, Nat.reduceMul, Nat.reduceSub, Int.reduceToNat, Nat.reduceBEq, s4], by omega, g0, v, by simp (disch := first | (simp only [go_sem, gb0, eq_self]; done) | omega | (simp only [gl1, gl2]; omega)) only [go_sem, ↓reduceIte, Nat.reduceEqDiff, Nat.reduceAdd, Nat.reduceMul, Nat.reduceSub, Int.reduceToNat, Nat.reduceBEq, s5], by rw [hbr]; exact ov.mono (by omega) fun id _ h3 => hgo id (by omega)⟩
    | true =>
      have hsp := sndB_iff.1 hs
      have hspx : sndP nx.length (wF nx) (ruleB (xOf nx.length l)) := sndB_iff.1 (by rw [hsb]; exact hs)
      have hbr : bestR nx pay cost (m + 1) = stepL n (bestR nx pay cost m) (valL nx pay cost m) n := by rw [bestR, hs, hn]; rfl
      have k34 := fun h h' K => ConW_any (h := h) (h' := h') (K := K) (f34_con C l hll hspx) rfl
      rw [hvl] at k34
      have hi34 : ∀ (h : Hp) (l : List (Int × Int)), importR h (LP l) = (LP l, h) := fun _ _ => rfl
      have hvlen := valL_len nx pay cost m
      have hvd := fun i hi => val_den C hsp (i := i) hi
      have hyid : ∀ id, id < B → ∀ id' off k sz', y = .sl id' off k sz' → id ≠ id' := fun id hid id' off k sz' e => by
        rcases oy with ⟨e2, _⟩ | ⟨w, h1, e2, _⟩
        · rw [e2] at e; cases e
        · rw [e2] at e; cases e; omega
      have g20 : g2.bl 0 = some (.cells false false [LLI nx, LI pay, LI cost]) := by rw [hg2o 0 (hyid 0 (by omega))]; exact g0
      have ov2 : OwnGe 1 eP 2 g2 v (bestR nx pay cost m) := ov.mono (by omega) fun id _ h3 => by
        rw [hg2o id (hyid id (by omega))]; exact hgo id (by omega)
      have hge : ∀ i, i < (bestR nx pay cost m).length → (1 ≤ (nth (bestR nx pay cost m) i).2 ∧ (nth (bestR nx pay cost m) i).2 ≤ 262144) ∧ (-3188646000 ≤ (nth (bestR nx pay cost m) i).1 ∧ (nth (bestR nx pay cost m) i).1 ≤ 3188646000) := fun i hi => by
        obtain ⟨x, _, h1, h2⟩ := BI.ex i hi
        rw [h2]
        refine val_den C h1 ?_
        rcases BI.len with e | e
        · rw [e] at hi; simp at hi
        · omega
      have hbl := BI.len
      have hg21 : 1 ≤ g2.nx := by omega
      generalize bestR nx pay cost m = b at *
      generalize valL nx pay cost m = vl at *
      simp (disch := first | (simp only [go_sem, gb0, eq_self]; done) | omega | (simp only [gl1, gl2]; omega)) only [go_sem, ↓reduceIte, Nat.reduceEqDiff, Nat.reduceAdd, Nat.reduceMul, Nat.reduceSub, Int.reduceToNat, Nat.reduceBEq, s1, s4, s5, s6, s7, g0, hse, hsy, k32, hs, k34, hi34, g20]
      refine WP_cut (fun st g => st 1 = .ptr 0 0 ∧ st 4 = I n ∧ st 6 = I m ∧ 1 ≤ g.nx ∧ g.bl 0 = some (.cells false false [LLI nx, LI pay, LI cost]) ∧ ∃ v, st 5 = v ∧ OwnGe 1 eP 2 g v (stepL n b vl n)) ?_ ?_
      · refine WP_for 10 n (fun i st g => st 1 = .ptr 0 0 ∧ st 4 = I n ∧ st 6 = I m ∧ st 9 = LP vl ∧ 1 ≤ g.nx ∧ g.bl 0 = some (.cells false false [LLI nx, LI pay, LI cost]) ∧ ∃ v, st 5 = v ∧ OwnGe 1 eP 2 g v (if i = 0 then b else stepL n b vl i)) (by simp (disch := first | (simp only [go_sem, gb0, eq_self]; done) | omega | (simp only [gl1, gl2]; omega)) only [go_sem, ↓reduceIte, Nat.reduceEqDiff, Nat.reduceAdd, Nat.reduceMul, Nat.reduceSub, Int.reduceToNat, Nat.reduceBEq])
          ⟨by simp (disch := first | (simp only [go_sem, gb0, eq_self]; done) | omega | (simp only [gl1, gl2]; omega)) only [go_sem, ↓reduceIte, Nat.reduceEqDiff, Nat.reduceAdd, Nat.reduceMul, Nat.reduceSub, Int.reduceToNat, Nat.reduceBEq, s1], by simp (disch := first | (simp only [go_sem, gb0, eq_self]; done) | omega | (simp only [gl1, gl2]; omega)) only [go_sem, ↓reduceIte, Nat.reduceEqDiff, Nat.reduceAdd, Nat.reduceMul, Nat.reduceSub, Int.reduceToNat, Nat.reduceBEq, s4], by simp (disch := first | (simp only [go_sem, gb0, eq_self]; done) | omega | (simp only [gl1, gl2]; omega)) only [go_sem, ↓reduceIte, Nat.reduceEqDiff, Nat.reduceAdd, Nat.reduceMul, Nat.reduceSub, Int.reduceToNat, Nat.reduceBEq, s6], by simp (disch := first | (simp only [go_sem, gb0, eq_self]; done) | omega | (simp only [gl1, gl2]; omega)) only [go_sem, ↓reduceIte, Nat.reduceEqDiff, Nat.reduceAdd, Nat.reduceMul, Nat.reduceSub, Int.reduceToNat, Nat.reduceBEq], hg21, g20, v, by simp (disch := first | (simp only [go_sem, gb0, eq_self]; done) | omega | (simp only [gl1, gl2]; omega)) only [go_sem, ↓reduceIte, Nat.reduceEqDiff, Nat.reduceAdd, Nat.reduceMul, Nat.reduceSub, Int.reduceToNat, Nat.reduceBEq, s5], by rw [if_pos rfl]; exact ov2⟩ ?_
        rintro i st g hi s10 ⟨s1, s4, s6, s9, hgn, g0, v, s5, ov⟩
        by_cases hin : i < n
        case neg =>
          have hie : i = n := by omega
          subst hie
          rw [if_neg (by omega)] at ov
          simp (disch := first | (simp only [go_sem, gb0, eq_self]; done) | omega | (simp only [gl1, gl2]; omega)) only [go_sem, ↓reduceIte, Nat.reduceEqDiff, Nat.reduceAdd, Nat.reduceMul, Nat.reduceSub, Int.reduceToNat, Nat.reduceBEq, s1, s4, s5, s6, s9, s10, hin]
          exact ⟨hgn, g0, _, rfl, ov⟩
        have hiv : i < vl.length := by omega
        have hiv' : (i : Int) < vl.length := by omega
        by_cases hlb : b.length < n
        · have hb0 : b = [] := by
            rcases hbl with e | e
            · exact e
            · omega
          have hcur : (if i = 0 then b else stepL n b vl i) = stepL n b vl i := by
            split
            · rename_i e; subst e; rw [hb0]; unfold stepL; rw [if_pos (by rw [List.length_nil]; omega)]; rfl
            · rfl
          rw [hcur] at ov
          have hsl := stepL_len (n := n) (b := b) (v := vl) (m := i)
          rw [if_pos hlb] at hsl
          have hlen := ov.own.lenB 37 g none
          rw [hsl] at hlen
          have hsa := stepL_app (n := n) (b := b) (v := vl) (m := i) hlb
          have hbs := fun h => bsB_pair (P := Try.prog) (h := h) 37 (nth vl i).1 (nth vl i).2 0 0 isz37 izero37
          have happ := app_pair (P := Try.prog) ov.own 37 16 (.agg [I 0, I 0]) (nth vl i).1 (nth vl i).2 isz37 ibytes37 izero37 rfl (by omega) (by omega)
          have ln : 1 ≤ (appH g v ((stepL n b vl i ++ [((nth vl i).1, (nth vl i).2)]).flatMap eP)).nx := by rw [appH_nx]; omega
          have lo : OwnGe 1 eP 2 (appH g v ((stepL n b vl i ++ [((nth vl i).1, (nth vl i).2)]).flatMap eP)) (appV g (stepL n b vl i ++ [((nth vl i).1, (nth vl i).2)]).length 2) (if i + 1 = 0 then b else stepL n b vl (i + 1)) := by
            rw [if_neg (by omega), hsa]
            exact OwnGe.app _ hgn _
          have ll : (appH g v ((stepL n b vl i ++ [((nth vl i).1, (nth vl i).2)]).flatMap eP)).bl 0 = some (.cells false false [LLI nx, LI pay, LI cost]) := by
            rw [ov.low (by decide) (by omega)]; exact g0
          generalize appH g v ((stepL n b vl i ++ [((nth vl i).1, (nth vl i).2)]).flatMap eP) = G at *
          generalize appV g (stepL n b vl i ++ [((nth vl i).1, (nth vl i).2)]).length 2 = u at *
          simp (disch := first | (simp only [go_sem, gb0, eq_self]; done) | omega | (simp only [gl1, gl2]; omega)) only [go_sem, ↓reduceIte, Nat.reduceEqDiff, Nat.reduceAdd, Nat.reduceMul, Nat.reduceSub, Int.reduceToNat, Nat.reduceBEq, s1, s4, s5, s6, s9, s10, hin, hlen, hiv, hiv', hbs, happ]
          rw [ForK_normal]
          exact ⟨hin, by simp (disch := first | (simp only [go_sem, gb0, eq_self]; done) | omega | (simp only [gl1, gl2]; omega)) only [go_sem, ↓reduceIte, Nat.reduceEqDiff, Nat.reduceAdd, Nat.reduceMul, Nat.reduceSub, Int.reduceToNat, Nat.reduceBEq, s10], by simp (disch := first | (simp only [go_sem, gb0, eq_self]; done) | omega | (simp only [gl1, gl2]; omega)) only [go_sem, ↓reduceIte, Nat.reduceEqDiff, Nat.reduceAdd, Nat.reduceMul, Nat.reduceSub, Int.reduceToNat, Nat.reduceBEq, s1], by simp (disch := first | (simp only [go_sem, gb0, eq_self]; done) | omega | (simp only [gl1, gl2]; omega)) only [go_sem, ↓reduceIte, Nat.reduceEqDiff, Nat.reduceAdd, Nat.reduceMul, Nat.reduceSub, Int.reduceToNat, Nat.reduceBEq, s4], by simp (disch := first | (simp only [go_sem, gb0, eq_self]; done) | omega | (simp only [gl1, gl2]; omega)) only [go_sem, ↓reduceIte, Nat.reduceEqDiff, Nat.reduceAdd, Nat.reduceMul, Nat.reduceSub, Int.reduceToNat, Nat.reduceBEq, s6], by simp (disch := first | (simp only [go_sem, gb0, eq_self]; done) | omega | (simp only [gl1, gl2]; omega)) only [go_sem, ↓reduceIte, Nat.reduceEqDiff, Nat.reduceAdd, Nat.reduceMul, Nat.reduceSub, Int.reduceToNat, Nat.reduceBEq, s9], ln, ll, _, by simp (disch := first | (simp only [go_sem, gb0, eq_self]; done) | omega | (simp only [gl1, gl2]; omega)) only [go_sem, ↓reduceIte, Nat.reduceEqDiff, Nat.reduceAdd, Nat.reduceMul, Nat.reduceSub, Int.reduceToNat, Nat.reduceBEq], lo⟩
        · have hb0 : b.length = n := by
            rcases hbl with e | e
            · exact absurd (by rw [e, List.length_nil]; omega) hlb
            · omega
          have hcur : (if i = 0 then b else stepL n b vl i) = stepL n b vl i := by
            split
            · rename_i e; subst e
              refine list_ext_nth (by rw [stepL_len, if_neg hlb, hb0]) fun k hk => ?_
              rw [stepL_nth hlb (by omega)]; simp
            · rfl
          rw [hcur] at ov
          have hsl := stepL_len (n := n) (b := b) (v := vl) (m := i)
          rw [if_neg hlb] at hsl
          obtain ⟨id, hid1, rfl, hidn, hbid⟩ : ∃ id, 1 ≤ id ∧ v = .sl id 0 n 2 ∧ id < g.nx ∧ g.bl id = some (.cells false true ((stepL n b vl i).flatMap eP)) := by
            rcases ov with ⟨_, e⟩ | ⟨id, h1, h2, h3, h4⟩
            · have := congrArg List.length e; rw [hsl, List.length_nil] at this; omega
            · exact ⟨id, h1, by rw [h2, hsl], h3, h4⟩
          have hlen : lenB (some (.slice 37)) (.sl id 0 n 2) g none = some (I n) := by have := ov.own.lenB 37 g none; rwa [hsl] at this
          have hcurn := stepL_nth (n := n) (b := b) (v := vl) (m := i) hlb hin
          rw [if_neg (fun h => by omega)] at hcurn
          have hbd := hge i (by omega)
          have hvdi := hvd i (by omega)
          have hld := load_pair (.struct #[{ name := "Num", type := 3, offset := 0, embedded := false, tag := "", pkgPath := "", byteOffset := 0 }, { name := "Den", type := 3, offset := 1, embedded := false, tag := "", pkgPath := "", byteOffset := 8 }]) rfl (stepL n b vl i) i (by rw [hsl]; exact hin)
          rw [hcurn] at hld
          have hm1 := mul_bd (a := (nth b i).1) (b := (nth vl i).2) (A := 3188646000) (B := 262144) (by omega) (by omega)
          have hm2 := mul_bd (a := (nth vl i).1) (b := (nth b i).2) (A := 3188646000) (B := 262144) (by omega) (by omega)
          have k20 := fun h h' K => ConW_num (h := h) (h' := h') (K := K) (f20_con (nth b i) (nth vl i) (by simp only [big]; omega) (by simp only [big]; omega)) rfl
          have hin' : (i : Int) < n := by omega
          have hnn : ¬ (n : Int) < n := by omega
          have hidn0 : ¬ 0 = id := by omega
          cases hls : lessP (nth b i) (nth vl i) with
          | false =>
            have hsm := stepL_same (n := n) (b := b) (v := vl) (m := i) hlb hls
            simp (disch := first | (simp only [go_sem, gb0, eq_self]; done) | omega | (simp only [gl1, gl2]; omega)) only [go_sem, ↓reduceIte, Nat.reduceEqDiff, Nat.reduceAdd, Nat.reduceMul, Nat.reduceSub, Int.reduceToNat, Nat.reduceBEq, s1, s4, s5, s6, s9, s10, hin, hin', hlen, hnn, hiv, hiv', hbid, hidn, hld, k20, hls]
            rw [ForK_normal]
            refine ⟨hin, by simp (disch := first | (simp only [go_sem, gb0, eq_self]; done) | omega | (simp only [gl1, gl2]; omega)) only [go_sem, ↓reduceIte, Nat.reduceEqDiff, Nat.reduceAdd, Nat.reduceMul, Nat.reduceSub, Int.reduceToNat, Nat.reduceBEq, s10], by simp (disch := first | (simp only [go_sem, gb0, eq_self]; done) | omega | (simp only [gl1, gl2]; omega)) only [go_sem, ↓reduceIte, Nat.reduceEqDiff, Nat.reduceAdd, Nat.reduceMul, Nat.reduceSub, Int.reduceToNat, Nat.reduceBEq, s1], by simp (disch := first | (simp only [go_sem, gb0, eq_self]; done) | omega | (simp only [gl1, gl2]; omega)) only [go_sem, ↓reduceIte, Nat.reduceEqDiff, Nat.reduceAdd, Nat.reduceMul, Nat.reduceSub, Int.reduceToNat, Nat.reduceBEq, s4], by simp (disch := first | (simp only [go_sem, gb0, eq_self]; done) | omega | (simp only [gl1, gl2]; omega)) only [go_sem, ↓reduceIte, Nat.reduceEqDiff, Nat.reduceAdd, Nat.reduceMul, Nat.reduceSub, Int.reduceToNat, Nat.reduceBEq, s6], by simp (disch := first | (simp only [go_sem, gb0, eq_self]; done) | omega | (simp only [gl1, gl2]; omega)) only [go_sem, ↓reduceIte, Nat.reduceEqDiff, Nat.reduceAdd, Nat.reduceMul, Nat.reduceSub, Int.reduceToNat, Nat.reduceBEq, s9], hgn, g0, _, by simp (disch := first | (simp only [go_sem, gb0, eq_self]; done) | omega | (simp only [gl1, gl2]; omega)) only [go_sem, ↓reduceIte, Nat.reduceEqDiff, Nat.reduceAdd, Nat.reduceMul, Nat.reduceSub, Int.reduceToNat, Nat.reduceBEq, s5]; rfl, ?_⟩
            rw [if_neg (by omega), hsm]; exact ov
          | true =>
            have hst := stepL_set (n := n) (b := b) (v := vl) (m := i) hlb hin hls
            have hsto := store_pair (h := g) id i true (stepL n b vl i) (nth vl i).1 (nth vl i).2 (by rw [hsl]; exact hin)
            rw [hst] at hsto
            simp (disch := first | (simp only [go_sem, gb0, eq_self]; done) | omega | (simp only [gl1, gl2]; omega)) only [go_sem, ↓reduceIte, Nat.reduceEqDiff, Nat.reduceAdd, Nat.reduceMul, Nat.reduceSub, Int.reduceToNat, Nat.reduceBEq, s1, s4, s5, s6, s9, s10, hin, hin', hlen, hnn, hiv, hiv', hbid, hidn, hld, k20, hls, hsto]
            rw [ForK_normal]
            refine ⟨hin, by simp (disch := first | (simp only [go_sem, gb0, eq_self]; done) | omega | (simp only [gl1, gl2]; omega)) only [go_sem, ↓reduceIte, Nat.reduceEqDiff, Nat.reduceAdd, Nat.reduceMul, Nat.reduceSub, Int.reduceToNat, Nat.reduceBEq, s10], by simp (disch := first | (simp only [go_sem, gb0, eq_self]; done) | omega | (simp only [gl1, gl2]; omega)) only [go_sem, ↓reduceIte, Nat.reduceEqDiff, Nat.reduceAdd, Nat.reduceMul, Nat.reduceSub, Int.reduceToNat, Nat.reduceBEq, s1], by simp (disch := first | (simp only [go_sem, gb0, eq_self]; done) | omega | (simp only [gl1, gl2]; omega)) only [go_sem, ↓reduceIte, Nat.reduceEqDiff, Nat.reduceAdd, Nat.reduceMul, Nat.reduceSub, Int.reduceToNat, Nat.reduceBEq, s4], by simp (disch := first | (simp only [go_sem, gb0, eq_self]; done) | omega | (simp only [gl1, gl2]; omega)) only [go_sem, ↓reduceIte, Nat.reduceEqDiff, Nat.reduceAdd, Nat.reduceMul, Nat.reduceSub, Int.reduceToNat, Nat.reduceBEq, s6], by simp (disch := first | (simp only [go_sem, gb0, eq_self]; done) | omega | (simp only [gl1, gl2]; omega)) only [go_sem, ↓reduceIte, Nat.reduceEqDiff, Nat.reduceAdd, Nat.reduceMul, Nat.reduceSub, Int.reduceToNat, Nat.reduceBEq, s9], hgn, by simp (disch := first | (simp only [go_sem, gb0, eq_self]; done) | omega | (simp only [gl1, gl2]; omega)) only [go_sem, ↓reduceIte, Nat.reduceEqDiff, Nat.reduceAdd, Nat.reduceMul, Nat.reduceSub, Int.reduceToNat, Nat.reduceBEq, g0, hidn0], _, by simp (disch := first | (simp only [go_sem, gb0, eq_self]; done) | omega | (simp only [gl1, gl2]; omega)) only [go_sem, ↓reduceIte, Nat.reduceEqDiff, Nat.reduceAdd, Nat.reduceMul, Nat.reduceSub, Int.reduceToNat, Nat.reduceBEq, s5]; rfl, ?_⟩
            rw [if_neg (by omega)]
            refine .inr ⟨id, hid1, by rw [stepL_len, if_neg hlb], hidn, by simp (disch := first | (simp only [go_sem, gb0, eq_self]; done) | omega | (simp only [gl1, gl2]; omega)) only [go_sem, ↓reduceIte, Nat.reduceEqDiff, Nat.reduceAdd, Nat.reduceMul, Nat.reduceSub, Int.reduceToNat, Nat.reduceBEq]⟩
      · rintro st g ⟨s1, s4, s6, hgn, g0, v, s5, ov⟩
        simp (disch := first | (simp only [go_sem, gb0, eq_self]; done) | omega | (simp only [gl1, gl2]; omega)) only [go_sem, ↓reduceIte, Nat.reduceEqDiff, Nat.reduceAdd, Nat.reduceMul, Nat.reduceSub, Int.reduceToNat, Nat.reduceBEq, s1, s4, s5, s6]
        rw [ForK_normal]
        exact ⟨hlt, by simp (disch := first | (simp only [go_sem, gb0, eq_self]; done) | omega | (simp only [gl1, gl2]; omega)) only [go_sem, ↓reduceIte, Nat.reduceEqDiff, Nat.reduceAdd, Nat.reduceMul, Nat.reduceSub, Int.reduceToNat, Nat.reduceBEq, s6], by simp (disch := first | (simp only [go_sem, gb0, eq_self]; done) | omega | (simp only [gl1, gl2]; omega)) only [go_sem, ↓reduceIte, Nat.reduceEqDiff, Nat.reduceAdd, Nat.reduceMul, Nat.reduceSub, Int.reduceToNat, Nat.reduceBEq, s1], by simp (disch := first | (simp only [go_sem, gb0, eq_self]; done) | omega | (simp only [gl1, gl2]; omega)) only [go_sem, ↓reduceIte, Nat.reduceEqDiff, Nat.reduceAdd, Nat.reduceMul, Nat.reduceSub, Int.reduceToNat, Nat.reduceBEq, s4], hgn, g0, v, by simp (disch := first | (simp only [go_sem, gb0, eq_self]; done) | omega | (simp only [gl1, gl2]; omega)) only [go_sem, ↓reduceIte, Nat.reduceEqDiff, Nat.reduceAdd, Nat.reduceMul, Nat.reduceSub, Int.reduceToNat, Nat.reduceBEq, s5], by rw [hbr]; exact ov⟩
  · rintro st h ⟨s1, s4, hnx, b0, v, s5, ov⟩
    obtain ⟨b, hb⟩ : ∃ b, b = bestL nx pay cost := ⟨_, rfl⟩
    have hbl : b.length = n := by rw [hb, hn]; exact bestL_len C
    rw [← hb] at ov ⊢
    obtain ⟨id, hid1, rfl, hidn, hbid⟩ : ∃ id, 1 ≤ id ∧ v = .sl id 0 n 2 ∧ id < h.nx ∧ h.bl id = some (.cells false true (b.flatMap eP)) := by
      rcases ov with ⟨_, e⟩ | ⟨id, h1, h2, h3, h4⟩
      · have := congrArg List.length e; rw [hbl, List.length_nil] at this; omega
      · exact ⟨id, h1, by rw [h2, hbl], h3, h4⟩
    obtain ⟨B, hB⟩ : ∃ B, B = h.nx := ⟨_, rfl⟩
    rw [← hn]
    simp (disch := first | (simp only [go_sem, gb0, eq_self]; done) | omega | (simp only [gl1, gl2]; omega)) only [go_sem, ↓reduceIte, Nat.reduceEqDiff, Nat.reduceAdd, Nat.reduceMul, Nat.reduceSub, Int.reduceToNat, Nat.reduceBEq, s1, s4, s5]
    refine WP_cut (fun st g => st 5 = .sl id 0 n 2 ∧ B ≤ g.nx ∧ g.bl id = some (.cells false true (b.flatMap eP)) ∧ ∃ y, st 11 = y ∧ OwnGe B (e1 I) 1 g y (stopsL n pay b n)) ?_ ?_
    · refine WP_for 12 n (fun i st g => st 1 = .ptr 0 0 ∧ st 4 = I n ∧ st 5 = .sl id 0 n 2 ∧ B ≤ g.nx ∧ g.bl 0 = some (.cells false false [LLI nx, LI pay, LI cost]) ∧ g.bl id = some (.cells false true (b.flatMap eP)) ∧ ∃ y, st 11 = y ∧ OwnGe B (e1 I) 1 g y (stopsL n pay b i)) (by simp (disch := first | (simp only [go_sem, gb0, eq_self]; done) | omega | (simp only [gl1, gl2]; omega)) only [go_sem, ↓reduceIte, Nat.reduceEqDiff, Nat.reduceAdd, Nat.reduceMul, Nat.reduceSub, Int.reduceToNat, Nat.reduceBEq])
        ⟨by simp (disch := first | (simp only [go_sem, gb0, eq_self]; done) | omega | (simp only [gl1, gl2]; omega)) only [go_sem, ↓reduceIte, Nat.reduceEqDiff, Nat.reduceAdd, Nat.reduceMul, Nat.reduceSub, Int.reduceToNat, Nat.reduceBEq, s1], by simp (disch := first | (simp only [go_sem, gb0, eq_self]; done) | omega | (simp only [gl1, gl2]; omega)) only [go_sem, ↓reduceIte, Nat.reduceEqDiff, Nat.reduceAdd, Nat.reduceMul, Nat.reduceSub, Int.reduceToNat, Nat.reduceBEq, s4], by simp (disch := first | (simp only [go_sem, gb0, eq_self]; done) | omega | (simp only [gl1, gl2]; omega)) only [go_sem, ↓reduceIte, Nat.reduceEqDiff, Nat.reduceAdd, Nat.reduceMul, Nat.reduceSub, Int.reduceToNat, Nat.reduceBEq, s5], by omega, b0, hbid, .nil, by simp (disch := first | (simp only [go_sem, gb0, eq_self]; done) | omega | (simp only [gl1, gl2]; omega)) only [go_sem, ↓reduceIte, Nat.reduceEqDiff, Nat.reduceAdd, Nat.reduceMul, Nat.reduceSub, Int.reduceToNat, Nat.reduceBEq], .inl ⟨rfl, rfl⟩⟩ ?_
      rintro i st g hi s12 ⟨s1, s4, s5, hgn, g0, gid, y, s11, oy⟩
      by_cases hin : i < n
      case neg =>
        have hie : i = n := by omega
        subst hie
        simp (disch := first | (simp only [go_sem, gb0, eq_self]; done) | omega | (simp only [gl1, gl2]; omega)) only [go_sem, ↓reduceIte, Nat.reduceEqDiff, Nat.reduceAdd, Nat.reduceMul, Nat.reduceSub, Int.reduceToNat, Nat.reduceBEq, s1, s4, s5, s11, s12, hin]
        exact ⟨hgn, gid, _, rfl, oy⟩
      have hin' : (i : Int) < n := by omega
      have hip : i < pay.length := by omega
      have hip' : (i : Int) < pay.length := by omega
      have hld := load_pair (.struct #[{ name := "Num", type := 3, offset := 0, embedded := false, tag := "", pkgPath := "", byteOffset := 0 }, { name := "Den", type := 3, offset := 1, embedded := false, tag := "", pkgPath := "", byteOffset := 8 }]) rfl b i (by omega)
      have l0 : 0 < g.nx := by omega
      have lid : id < g.nx := by omega
      have hfs := filtL_succ (fun i => decide ((nth b i).1 = nth pay i) && decide ((nth b i).2 = 1)) i
      have hfl := filtL_len (fun i => decide ((nth b i).1 = nth pay i) && decide ((nth b i).2 = 1)) i
      obtain ⟨ys, hys⟩ : ∃ ys, ys = stopsL n pay b i := ⟨_, rfl⟩
      have hys2 : filtL (fun i => decide ((nth b i).1 = nth pay i) && decide ((nth b i).2 = 1)) i = ys := hys.symm
      rw [← hys] at oy
      rw [hys2] at hfs hfl
      have hfs3 : stopsL n pay b (i + 1) = if (decide ((nth b i).1 = nth pay i) && decide ((nth b i).2 = 1)) = true then ys ++ [(i : Int)] else ys := hfs
      cases hc : (decide ((nth b i).1 = nth pay i) && decide ((nth b i).2 = 1)) with
      | false =>
        rw [hc] at hfs3
        have hfs4 : stopsL n pay b (i + 1) = ys := hfs3
        simp (disch := first | (simp only [go_sem, gb0, eq_self]; done) | omega | (simp only [gl1, gl2]; omega)) only [go_sem, ↓reduceIte, Nat.reduceEqDiff, Nat.reduceAdd, Nat.reduceMul, Nat.reduceSub, Int.reduceToNat, Nat.reduceBEq, s1, s4, s5, s11, s12, hin, hin', hip, hip', g0, gid, l0, lid, hld, hc, List.drop_succ_cons]
        rw [ForK_normal]
        exact ⟨hin, by simp (disch := first | (simp only [go_sem, gb0, eq_self]; done) | omega | (simp only [gl1, gl2]; omega)) only [go_sem, ↓reduceIte, Nat.reduceEqDiff, Nat.reduceAdd, Nat.reduceMul, Nat.reduceSub, Int.reduceToNat, Nat.reduceBEq, s12], by simp (disch := first | (simp only [go_sem, gb0, eq_self]; done) | omega | (simp only [gl1, gl2]; omega)) only [go_sem, ↓reduceIte, Nat.reduceEqDiff, Nat.reduceAdd, Nat.reduceMul, Nat.reduceSub, Int.reduceToNat, Nat.reduceBEq, s1], by simp (disch := first | (simp only [go_sem, gb0, eq_self]; done) | omega | (simp only [gl1, gl2]; omega)) only [go_sem, ↓reduceIte, Nat.reduceEqDiff, Nat.reduceAdd, Nat.reduceMul, Nat.reduceSub, Int.reduceToNat, Nat.reduceBEq, s4], by simp (disch := first | (simp only [go_sem, gb0, eq_self]; done) | omega | (simp only [gl1, gl2]; omega)) only [go_sem, ↓reduceIte, Nat.reduceEqDiff, Nat.reduceAdd, Nat.reduceMul, Nat.reduceSub, Int.reduceToNat, Nat.reduceBEq, s5], hgn, g0, gid, y, by simp (disch := first | (simp only [go_sem, gb0, eq_self]; done) | omega | (simp only [gl1, gl2]; omega)) only [go_sem, ↓reduceIte, Nat.reduceEqDiff, Nat.reduceAdd, Nat.reduceMul, Nat.reduceSub, Int.reduceToNat, Nat.reduceBEq, s11], by rw [hfs4]; exact oy⟩
      | true =>
        rw [hc] at hfs3
        have hfs4 : stopsL n pay b (i + 1) = ys ++ [(i : Int)] := hfs3
        have hbs := fun h => bsB_one (P := Try.prog) 3 (I i) (I i) (I 0) h isz3 izero3 rfl rfl rfl rfl rfl rfl rfl
        have happ := app_one (P := Try.prog) oy.own 3 8 (I 0) (i : Int) isz3 ibytes3 izero3 rfl (by omega) (by omega)
        have ln : B ≤ (appH g y ((ys ++ [(i : Int)]).flatMap (e1 I))).nx := by rw [appH_nx]; omega
        have lo : OwnGe B (e1 I) 1 (appH g y ((ys ++ [(i : Int)]).flatMap (e1 I))) (appV g (ys ++ [(i : Int)]).length 1) (stopsL n pay b (i + 1)) := by
          rw [hfs4]
          exact OwnGe.app _ hgn _
        have ll0 : (appH g y ((ys ++ [(i : Int)]).flatMap (e1 I))).bl 0 = some (.cells false false [LLI nx, LI pay, LI cost]) := by rw [oy.low (by omega) (by omega)]; exact g0
        have ll1 : (appH g y ((ys ++ [(i : Int)]).flatMap (e1 I))).bl id = some (.cells false true (b.flatMap eP)) := by rw [oy.low (by omega) (by omega)]; exact gid
        generalize appH g y ((ys ++ [(i : Int)]).flatMap (e1 I)) = G at *
        generalize appV g (ys ++ [(i : Int)]).length 1 = u at *
        simp (disch := first | (simp only [go_sem, gb0, eq_self]; done) | omega | (simp only [gl1, gl2]; omega)) only [go_sem, ↓reduceIte, Nat.reduceEqDiff, Nat.reduceAdd, Nat.reduceMul, Nat.reduceSub, Int.reduceToNat, Nat.reduceBEq, s1, s4, s5, s11, s12, hin, hin', hip, hip', g0, gid, l0, lid, hld, hc, hbs, happ, List.drop_succ_cons]
        rw [ForK_normal]
        exact ⟨hin, by simp (disch := first | (simp only [go_sem, gb0, eq_self]; done) | omega | (simp only [gl1, gl2]; omega)) only [go_sem, ↓reduceIte, Nat.reduceEqDiff, Nat.reduceAdd, Nat.reduceMul, Nat.reduceSub, Int.reduceToNat, Nat.reduceBEq, s12], by simp (disch := first | (simp only [go_sem, gb0, eq_self]; done) | omega | (simp only [gl1, gl2]; omega)) only [go_sem, ↓reduceIte, Nat.reduceEqDiff, Nat.reduceAdd, Nat.reduceMul, Nat.reduceSub, Int.reduceToNat, Nat.reduceBEq, s1], by simp (disch := first | (simp only [go_sem, gb0, eq_self]; done) | omega | (simp only [gl1, gl2]; omega)) only [go_sem, ↓reduceIte, Nat.reduceEqDiff, Nat.reduceAdd, Nat.reduceMul, Nat.reduceSub, Int.reduceToNat, Nat.reduceBEq, s4], by simp (disch := first | (simp only [go_sem, gb0, eq_self]; done) | omega | (simp only [gl1, gl2]; omega)) only [go_sem, ↓reduceIte, Nat.reduceEqDiff, Nat.reduceAdd, Nat.reduceMul, Nat.reduceSub, Int.reduceToNat, Nat.reduceBEq, s5], ln, ll0, ll1, _, by simp (disch := first | (simp only [go_sem, gb0, eq_self]; done) | omega | (simp only [gl1, gl2]; omega)) only [go_sem, ↓reduceIte, Nat.reduceEqDiff, Nat.reduceAdd, Nat.reduceMul, Nat.reduceSub, Int.reduceToNat, Nat.reduceBEq], lo⟩
    · rintro st g ⟨s5, hgn, gid, y, s11, oy⟩
      simp (disch := first | (simp only [go_sem, gb0, eq_self]; done) | omega | (simp only [gl1, gl2]; omega)) only [go_sem, ↓reduceIte, Nat.reduceEqDiff, Nat.reduceAdd, Nat.reduceMul, Nat.reduceSub, Int.reduceToNat, Nat.reduceBEq, s5, s11]
      have hx := export_own2 28 23 (h := g) (f := eP) (g := e1 I) (v := .sl id 0 n 2) (w := y) (xs := b) (ys := stopsL n pay b n) (.inr ⟨id, by rw [hbl], by omega, gid⟩) oy.own (by
        intro id1 off k s id2 off' k' s' e1 e2
        cases e1
        rcases oy with ⟨e3, _⟩ | ⟨w, h1, e3, _⟩
        · rw [e3] at e2; cases e2
        · rw [e3] at e2; cases e2; omega)
      rw [sealA_sl] at hx
      exact hx
end Go.Proofs.Ytgamcclfdkpcgaa

set_option linter.unusedVariables false
set_option linter.unusedSimpArgs false
set_option maxRecDepth 10000
namespace Go.Proofs.Ytgamcclfdkpcgaa
open Go Go.Am

variable {h h' : Hp} {K : AV → Hp → Prop}

theorem ways_of {nx : List (List Int)} {pay cost : List Int} (C : okC nx pay cost) : Ways (chA nx pay cost) nx.length (sndB nx.length (wF nx)) (supB nx.length (wF nx) (pF pay) (pF cost)) (eqR nx pay cost) (valL nx pay cost) :=
  ⟨f54_con C, fun x _ => f56_con C x, fun x _ => ⟨_, rfl, matA_pure _⟩, fun x h => f55_con C x (sndB_iff.1 h), fun x h => f69_con C x (sndB_iff.1 h)⟩
theorem f49_pure {nx : List (List Int)} {pay cost : List Int} (C : okC nx pay cost) : PureOk Try.prog 49 [chA nx pay cost] (LP (bestL nx pay cost)) := best_pure nx pay cost C.n6 (ways_of C)
def BestRel (args : List AV) (r : AV) : Prop := ∃ nx pay cost, okC nx pay cost ∧ args = [chA nx pay cost] ∧ r = LP (bestL nx pay cost)
theorem map_inj {α β : Type} {f : α → β} (hf : ∀ a b, f a = f b → a = b) : ∀ {xs ys : List α}, xs.map f = ys.map f → xs = ys
  | [], [], _ => rfl
  | [], _ :: _, h => by cases h
  | _ :: _, [], h => by cases h
  | x :: xs, y :: ys, h => by
    simp only [List.map_cons, List.cons.injEq] at h
    rw [hf _ _ h.1, map_inj hf h.2]
theorem L_inj {α : Type} {f : α → List AV} (hf : ∀ a b, f a = f b → a = b) {xs ys : List α} (h : L f xs = L f ys) : xs = ys := by
  injection h with h; exact map_inj hf h
theorem LI_inj {xs ys : List Int} (h : LI xs = LI ys) : xs = ys := L_inj (fun a b h => by injection h with h; injection h) h
theorem LLI_inj {xs ys : List (List Int)} (h : LLI xs = LLI ys) : xs = ys := L_inj (fun a b h => by injection h with h; exact LI_inj h) h
theorem BestRel.det {args : List AV} {r s : AV} (h : BestRel args r) (k : BestRel args s) : r = s := by
  obtain ⟨a, b, c, _, e, rfl⟩ := h
  obtain ⟨a', b', c', _, e', rfl⟩ := k
  rw [e] at e'
  simp only [List.cons.injEq, AV.agg.injEq, and_true] at e'
  obtain ⟨e1, e2, e3⟩ := e'
  rw [LLI_inj e1, LI_inj e2, LI_inj e3]

def baseX : List Nat := [15, 17, 18, 19, 20, 22, 28, 29, 30, 31, 32, 33, 34, 35, 36, 37, 47, 48, 50, 63, 66]
open Classical in
noncomputable def extX (f : FuncId) (args : List AV) : Option AV :=
  if f = 49 then (if h : ∃ r, BestRel args r then some h.choose else none)
  else if f = 21 then (if args = [] then some (.bool true) else none)
  else if baseX.contains f = true then (if h : ∃ r, Con Try.prog cfg f args r then some h.choose else none) else none
noncomputable def cfgX : Cfg := { cfg with ext := extX }
theorem hextX : ExtOk Try.prog cfgX := by
  intro f args r he
  have he : extX f args = some r := he
  unfold extX at he
  split at he
  · rename_i h49
    split at he
    · rename_i h
      cases he
      obtain ⟨nx, pay, cost, C, e, er⟩ := h.choose_spec
      subst h49
      rw [er, e]
      exact ⟨f49_pure C, fun _ => pure_L _⟩
    · cases he
  split at he
  · rename_i h21
    split at he
    · rename_i hn
      cases he
      subst h21; subst hn
      exact ⟨f21_pure, fun _ => rfl⟩
    · cases he
  split at he
  · rename_i hbase
    split at he
    · rename_i h
      cases he
      obtain ⟨k, hk⟩ := h.choose_spec
      exact ⟨(sound hext0 k).2.2.1 _ _ _ hk, fun ho => callP_pure (P := Try.prog) (cfg := cfg) (fun _ _ _ h => by cases h) rfl hk⟩
    · cases he
  · cases he
theorem liftX {f : FuncId} {args : List AV} {r : AV} (hb : (decide (f = 49) || (decide (f = 21) || !baseX.contains f)) = false) (hc : Con Try.prog cfg f args r) : Con Try.prog cfgX f args r := by
  simp only [Bool.or_eq_false_iff, decide_eq_false_iff_not, Bool.not_eq_false'] at hb
  refine ⟨1, ?_⟩
  have : extX f args = some r := by
    unfold extX
    have hex : ∃ r, Con Try.prog cfg f args r := ⟨r, hc⟩
    rw [if_neg hb.1, if_neg hb.2.1, if_pos hb.2.2, dif_pos hex]
    obtain ⟨k, hk⟩ := hex.choose_spec
    obtain ⟨k', hk'⟩ := hc
    rw [callP_det hk hk']
  show (match extX f args with | some r => some r | none => _) = _
  rw [this]
theorem awakeX : Con Try.prog cfgX 21 [] (.bool true) := by
  refine ⟨1, ?_⟩
  have : cfgX.ext 21 [] = some (.bool true) := by
    show extX 21 [] = _
    unfold extX
    rw [if_neg (by decide), if_pos rfl, if_pos rfl]
  simp only [callP, this]
theorem bestX {nx : List (List Int)} {pay cost : List Int} (C : okC nx pay cost) : Con Try.prog cfgX 49 [chA nx pay cost] (LP (bestL nx pay cost)) := by
  refine ⟨1, ?_⟩
  have hr : BestRel [chA nx pay cost] (LP (bestL nx pay cost)) := ⟨nx, pay, cost, C, rfl, rfl⟩
  have : extX 49 [chA nx pay cost] = some (LP (bestL nx pay cost)) := by
    unfold extX
    have hex : ∃ r, BestRel [chA nx pay cost] r := ⟨_, hr⟩
    rw [if_pos rfl, dif_pos hex, BestRel.det hex.choose_spec hr]
  show (match extX 49 [chA nx pay cost] with | some r => some r | none => _) = _
  rw [this]
@[go_sem] theorem shr49 : cfg.shared 49 = false := by kernel_rfl
@[go_sem] theorem cfgX_strict (a b : Nat) : cfgX.strict a b = cfg.strict a b := rfl
@[go_sem] theorem cfgX_shared (f : Nat) : cfgX.shared f = cfg.shared f := rfl
@[go_sem] theorem cfgX_own (f : Nat) : cfgX.own f = cfg.own f := rfl
@[go_sem] theorem cfgX_kn (f : Nat) : cfgX.keepNil f = cfg.keepNil f := rfl
@[go_sem] theorem cfgX_wr (a b : Nat) : cfgX.wr a b = cfg.wr a b := rfl
theorem okX16 : funcOk cfgX Try.f16 (Try.f16.body.getD .skip) = true := by kernel_rfl
end Go.Proofs.Ytgamcclfdkpcgaa

set_option linter.unusedVariables false
set_option linter.unusedSimpArgs false
set_option maxRecDepth 10000
namespace Go.Proofs.Ytgamcclfdkpcgaa
open Go Go.Am

variable {h h' : Hp} {K : AV → Hp → Prop}

theorem f33_con (a b : List (Int × Int)) (ha : a.length ≤ maxLen) (hb : b.length ≤ maxLen) : Con Try.prog cfg 33 [LP a, LP b] (.bool (decide (a = b))) := by
  have ml : maxLen = 9223372036854775807 := by decide
  by_cases hl : a.length = b.length
  case neg =>
    have hr : decide (a = b) = false := decide_eq_false fun h => hl (by rw [h])
    rw [hr]
    refine Con_intro Try.func33 rfl ok33 (Nat.le_of_ble_eq_true rfl) rfl ?_
    simp only [Try.f33, Option.getD_some, initSt2]
    simp (disch := first | (simp only [go_sem, gb0, eq_self]; done) | omega | (simp only [gl1, gl2]; omega)) only [go_sem, ↓reduceIte, Nat.reduceEqDiff, Nat.reduceAdd, Nat.reduceMul, Nat.reduceSub, Int.reduceToNat, Nat.reduceBEq, hl]
  have hl' : (a.length : Int) = b.length := by omega
  refine Con_intro Try.func33 rfl ok33 (Nat.le_of_ble_eq_true rfl) rfl ?_
  simp only [Try.f33, Option.getD_some, initSt2]
  simp (disch := first | (simp only [go_sem, gb0, eq_self]; done) | omega | (simp only [gl1, gl2]; omega)) only [go_sem, ↓reduceIte, Nat.reduceEqDiff, Nat.reduceAdd, Nat.reduceMul, Nat.reduceSub, Int.reduceToNat, Nat.reduceBEq, hl, eq_self, decide_true, Bool.not_true]
  refine WP_for 5 b.length (fun j st h => st 0 = LP a ∧ st 1 = LP b ∧ ∀ k, k < j → nth a k = nth b k) (by simp (disch := first | (simp only [go_sem, gb0, eq_self]; done) | omega | (simp only [gl1, gl2]; omega)) only [go_sem, ↓reduceIte, Nat.reduceEqDiff, Nat.reduceAdd, Nat.reduceMul, Nat.reduceSub, Int.reduceToNat, Nat.reduceBEq]) ⟨by simp (disch := first | (simp only [go_sem, gb0, eq_self]; done) | omega | (simp only [gl1, gl2]; omega)) only [go_sem, ↓reduceIte, Nat.reduceEqDiff, Nat.reduceAdd, Nat.reduceMul, Nat.reduceSub, Int.reduceToNat, Nat.reduceBEq], by simp (disch := first | (simp only [go_sem, gb0, eq_self]; done) | omega | (simp only [gl1, gl2]; omega)) only [go_sem, ↓reduceIte, Nat.reduceEqDiff, Nat.reduceAdd, Nat.reduceMul, Nat.reduceSub, Int.reduceToNat, Nat.reduceBEq], by omega⟩ ?_
  rintro j st h hj s5 ⟨s0, s1, hall⟩
  by_cases hlt : j < b.length
  case neg =>
    have hr : decide (a = b) = true := decide_eq_true (list_ext_nth hl fun k hk => hall k (by omega))
    have hlt' : ¬ j < a.length := by omega
    simp (disch := first | (simp only [go_sem, gb0, eq_self]; done) | omega | (simp only [gl1, gl2]; omega)) only [go_sem, ↓reduceIte, Nat.reduceEqDiff, Nat.reduceAdd, Nat.reduceMul, Nat.reduceSub, Int.reduceToNat, Nat.reduceBEq, s0, s1, s5, hlt, hlt', hr]
  have hla : j < a.length := by omega
  have hla' : (j : Int) < a.length := by omega
  by_cases hc : nth a j = nth b j
  · have e1 : (nth a j).1 = (nth b j).1 := by rw [hc]
    have e2 : (nth a j).2 = (nth b j).2 := by rw [hc]
    simp (disch := first | (simp only [go_sem, gb0, eq_self]; done) | omega | (simp only [gl1, gl2]; omega)) only [go_sem, ↓reduceIte, Nat.reduceEqDiff, Nat.reduceAdd, Nat.reduceMul, Nat.reduceSub, Int.reduceToNat, Nat.reduceBEq, s0, s1, s5, hlt, hla, hla', e1, e2, eq_self, decide_true, Bool.not_true]
    rw [ForK_normal]
    refine ⟨hlt, by simp (disch := first | (simp only [go_sem, gb0, eq_self]; done) | omega | (simp only [gl1, gl2]; omega)) only [go_sem, ↓reduceIte, Nat.reduceEqDiff, Nat.reduceAdd, Nat.reduceMul, Nat.reduceSub, Int.reduceToNat, Nat.reduceBEq, s5], by simp (disch := first | (simp only [go_sem, gb0, eq_self]; done) | omega | (simp only [gl1, gl2]; omega)) only [go_sem, ↓reduceIte, Nat.reduceEqDiff, Nat.reduceAdd, Nat.reduceMul, Nat.reduceSub, Int.reduceToNat, Nat.reduceBEq, s0], by simp (disch := first | (simp only [go_sem, gb0, eq_self]; done) | omega | (simp only [gl1, gl2]; omega)) only [go_sem, ↓reduceIte, Nat.reduceEqDiff, Nat.reduceAdd, Nat.reduceMul, Nat.reduceSub, Int.reduceToNat, Nat.reduceBEq, s1], fun k hk => ?_⟩
    by_cases hkj : k = j
    · subst hkj; exact hc
    · exact hall k (by omega)
  · have hr : decide (a = b) = false := decide_eq_false fun h => hc (by rw [h])
    have hd : (decide ((nth a j).1 = (nth b j).1) && decide ((nth a j).2 = (nth b j).2)) = false := by
      rw [Bool.and_eq_false_iff, decide_eq_false_iff_not, decide_eq_false_iff_not]
      by_cases h1 : (nth a j).1 = (nth b j).1
      · right; exact fun h2 => hc (Prod.ext h1 h2)
      · exact .inl h1
    simp (disch := first | (simp only [go_sem, gb0, eq_self]; done) | omega | (simp only [gl1, gl2]; omega)) only [go_sem, ↓reduceIte, Nat.reduceEqDiff, Nat.reduceAdd, Nat.reduceMul, Nat.reduceSub, Int.reduceToNat, Nat.reduceBEq, s0, s1, s5, hlt, hla, hla', hd, hr]
theorem f22_con (a b : List Int) (ha : a.length ≤ maxLen) (hb : b.length ≤ maxLen) : Con Try.prog cfg 22 [LI a, LI b] (.bool (decide (a = b))) := by
  have ml : maxLen = 9223372036854775807 := by decide
  by_cases hl : a.length = b.length
  case neg =>
    have hr : decide (a = b) = false := decide_eq_false fun h => hl (by rw [h])
    rw [hr]
    refine Con_intro Try.func22 rfl ok22 (Nat.le_of_ble_eq_true rfl) rfl ?_
    simp only [Try.f22, Option.getD_some, initSt2]
    simp (disch := first | (simp only [go_sem, gb0, eq_self]; done) | omega | (simp only [gl1, gl2]; omega)) only [go_sem, ↓reduceIte, Nat.reduceEqDiff, Nat.reduceAdd, Nat.reduceMul, Nat.reduceSub, Int.reduceToNat, Nat.reduceBEq, hl]
  have hl' : (a.length : Int) = b.length := by omega
  refine Con_intro Try.func22 rfl ok22 (Nat.le_of_ble_eq_true rfl) rfl ?_
  simp only [Try.f22, Option.getD_some, initSt2]
  simp (disch := first | (simp only [go_sem, gb0, eq_self]; done) | omega | (simp only [gl1, gl2]; omega)) only [go_sem, ↓reduceIte, Nat.reduceEqDiff, Nat.reduceAdd, Nat.reduceMul, Nat.reduceSub, Int.reduceToNat, Nat.reduceBEq, hl, eq_self, decide_true, Bool.not_true]
  refine WP_for 5 b.length (fun j st h => st 0 = LI a ∧ st 1 = LI b ∧ ∀ k, k < j → nth a k = nth b k) (by simp (disch := first | (simp only [go_sem, gb0, eq_self]; done) | omega | (simp only [gl1, gl2]; omega)) only [go_sem, ↓reduceIte, Nat.reduceEqDiff, Nat.reduceAdd, Nat.reduceMul, Nat.reduceSub, Int.reduceToNat, Nat.reduceBEq]) ⟨by simp (disch := first | (simp only [go_sem, gb0, eq_self]; done) | omega | (simp only [gl1, gl2]; omega)) only [go_sem, ↓reduceIte, Nat.reduceEqDiff, Nat.reduceAdd, Nat.reduceMul, Nat.reduceSub, Int.reduceToNat, Nat.reduceBEq], by simp (disch := first | (simp only [go_sem, gb0, eq_self]; done) | omega | (simp only [gl1, gl2]; omega)) only [go_sem, ↓reduceIte, Nat.reduceEqDiff, Nat.reduceAdd, Nat.reduceMul, Nat.reduceSub, Int.reduceToNat, Nat.reduceBEq], by omega⟩ ?_
  rintro j st h hj s5 ⟨s0, s1, hall⟩
  by_cases hlt : j < b.length
  case neg =>
    have hr : decide (a = b) = true := decide_eq_true (list_ext_nth hl fun k hk => hall k (by omega))
    have hlt' : ¬ j < a.length := by omega
    simp (disch := first | (simp only [go_sem, gb0, eq_self]; done) | omega | (simp only [gl1, gl2]; omega)) only [go_sem, ↓reduceIte, Nat.reduceEqDiff, Nat.reduceAdd, Nat.reduceMul, Nat.reduceSub, Int.reduceToNat, Nat.reduceBEq, s0, s1, s5, hlt, hlt', hr]
  have hla : j < a.length := by omega
  have hla' : (j : Int) < a.length := by omega
  by_cases hc : nth a j = nth b j
  · simp (disch := first | (simp only [go_sem, gb0, eq_self]; done) | omega | (simp only [gl1, gl2]; omega)) only [go_sem, ↓reduceIte, Nat.reduceEqDiff, Nat.reduceAdd, Nat.reduceMul, Nat.reduceSub, Int.reduceToNat, Nat.reduceBEq, s0, s1, s5, hlt, hla, hla', hc, eq_self, decide_true, Bool.not_true]
    rw [ForK_normal]
    refine ⟨hlt, by simp (disch := first | (simp only [go_sem, gb0, eq_self]; done) | omega | (simp only [gl1, gl2]; omega)) only [go_sem, ↓reduceIte, Nat.reduceEqDiff, Nat.reduceAdd, Nat.reduceMul, Nat.reduceSub, Int.reduceToNat, Nat.reduceBEq, s5], by simp (disch := first | (simp only [go_sem, gb0, eq_self]; done) | omega | (simp only [gl1, gl2]; omega)) only [go_sem, ↓reduceIte, Nat.reduceEqDiff, Nat.reduceAdd, Nat.reduceMul, Nat.reduceSub, Int.reduceToNat, Nat.reduceBEq, s0], by simp (disch := first | (simp only [go_sem, gb0, eq_self]; done) | omega | (simp only [gl1, gl2]; omega)) only [go_sem, ↓reduceIte, Nat.reduceEqDiff, Nat.reduceAdd, Nat.reduceMul, Nat.reduceSub, Int.reduceToNat, Nat.reduceBEq, s1], fun k hk => ?_⟩
    by_cases hkj : k = j
    · subst hkj; exact hc
    · exact hall k (by omega)
  · have hr : decide (a = b) = false := decide_eq_false fun h => hc (by rw [h])
    simp (disch := first | (simp only [go_sem, gb0, eq_self]; done) | omega | (simp only [gl1, gl2]; omega)) only [go_sem, ↓reduceIte, Nat.reduceEqDiff, Nat.reduceAdd, Nat.reduceMul, Nat.reduceSub, Int.reduceToNat, Nat.reduceBEq, s0, s1, s5, hlt, hla, hla', hc, hr]

/-! ### Fractions that may be given -/
def isVB (f : Int × Int) : Bool := inB f.2 1 1048576 && (inB f.1 (-1099511627776) 1099511627776 && decide (gcdI f.1 f.2 = 1))
end Go.Proofs.Ytgamcclfdkpcgaa

set_option linter.unusedVariables false
set_option linter.unusedSimpArgs false
set_option maxRecDepth 10000
namespace Go.Proofs.Ytgamcclfdkpcgaa
open Go Go.Am

variable {h h' : Hp} {K : AV → Hp → Prop}

/-! ### Best and Check, with the answer of best put in -/
def chkR (nx : List (List Int)) (pay cost : List Int) (b v : List (Int × Int)) : Int := if chB nx pay cost && (decide (v.length = nx.length) && v.all isVB) then (if v = b then 0 else 10) else 2
def bstR (nx : List (List Int)) (pay cost : List Int) (b : List (Int × Int)) : AV := if chB nx pay cost then .tup [LP b, LI (stopsL nx.length pay b nx.length), I 0] else .tup [LP [], LI [], I 2]
theorem f16_con (nx : List (List Int)) (pay cost : List Int) (hk : okN nx pay cost) : Con Try.prog cfgX 16 [chA nx pay cost] (bstR nx pay cost (bestL nx pay cost)) := by
  have ml : maxLen = 9223372036854775807 := by decide
  have hal : ∀ g : Hp, allocB g (some (chA nx pay cost)) = some (.ptr g.nx 0, g.alloc (.cells false false [LLI nx, LI pay, LI cost])) := fun g => allocB_agg _ rfl
  have hal2 : ∀ (g : Hp) (x y : Int), allocB g (some (.agg [I x, I y])) = some (.ptr g.nx 0, g.alloc (.cells false false [I x, I y])) := fun g x y => allocB_agg _ rfl
  have k48 := fun h h' K => ConW_num (h := h) (h' := h') (K := K) (liftX (by decide) (f48_con nx pay cost hk)) rfl
  have hse : ∀ h : Hp, sealA h (chA nx pay cost) = some (chA nx pay cost, h) := fun h => sealA_agg _ (by simp only [AV.pureL, pure_L, Bool.and_true])
  cases c1 : chB nx pay cost with
  | false =>
    have hr : bstR nx pay cost (bestL nx pay cost) = .tup [LP [], LI [], I 2] := by rw [bstR, c1]; rfl
    rw [hr]
    refine Con_intro Try.func16 rfl okX16 (Nat.le_of_ble_eq_true rfl) rfl ?_
    simp only [Try.f16, Option.getD_some, initSt1]
    simp (disch := first | (simp only [go_sem, gb0, eq_self]; done) | omega | (simp only [gl1, gl2]; omega)) only [go_sem, ↓reduceIte, Nat.reduceEqDiff, Nat.reduceAdd, Nat.reduceMul, Nat.reduceSub, Int.reduceToNat, Nat.reduceBEq, hal, k48, hse, c1]
    rfl
  | true =>
    have C := okC.of c1
    have hr : bstR nx pay cost (bestL nx pay cost) = .tup [LP (bestL nx pay cost), LI (stopsL nx.length pay (bestL nx pay cost) nx.length), I 0] := by rw [bstR, c1]; rfl
    have hbl := bestL_len C
    have hlp := C.lp
    have hn6 := C.n6
    have kb := fun h h' K => ConW_any (h := h) (h' := h') (K := K) (bestX C) rfl
    have hi : ∀ (h : Hp) (l : List (Int × Int)), importR h (LP l) = (LP l, h) := fun _ _ => rfl
    rw [hr]
    generalize bestL nx pay cost = b at *
    obtain ⟨n, hn⟩ : ∃ n, n = nx.length := ⟨_, rfl⟩
    rw [← hn] at hbl ⊢
    refine Con_intro Try.func16 rfl okX16 (Nat.le_of_ble_eq_true rfl) rfl ?_
    simp only [Try.f16, Option.getD_some, initSt1]
    simp (disch := first | (simp only [go_sem, gb0, eq_self]; done) | omega | (simp only [gl1, gl2]; omega)) only [go_sem, ↓reduceIte, Nat.reduceEqDiff, Nat.reduceAdd, Nat.reduceMul, Nat.reduceSub, Int.reduceToNat, Nat.reduceBEq, hal, k48, hse, c1, kb, hi]
    refine WP_cut (fun st h => st 5 = LP b ∧ ∃ y, st 6 = y ∧ Go.Am.Own (e1 I) 1 h y (stopsL n pay b n)) ?_ ?_
    · refine WP_for 16 n (fun i st g => st 1 = .ptr 0 0 ∧ st 5 = LP b ∧ st 14 = LP b ∧ st 15 = I n ∧ 1 ≤ g.nx ∧ g.bl 0 = some (.cells false false [LLI nx, LI pay, LI cost]) ∧ ∃ y, st 6 = y ∧ OwnGe 1 (e1 I) 1 g y (stopsL n pay b i)) (by simp (disch := first | (simp only [go_sem, gb0, eq_self]; done) | omega | (simp only [gl1, gl2]; omega)) only [go_sem, ↓reduceIte, Nat.reduceEqDiff, Nat.reduceAdd, Nat.reduceMul, Nat.reduceSub, Int.reduceToNat, Nat.reduceBEq])
        ⟨by simp (disch := first | (simp only [go_sem, gb0, eq_self]; done) | omega | (simp only [gl1, gl2]; omega)) only [go_sem, ↓reduceIte, Nat.reduceEqDiff, Nat.reduceAdd, Nat.reduceMul, Nat.reduceSub, Int.reduceToNat, Nat.reduceBEq], by simp (disch := first | (simp only [go_sem, gb0, eq_self]; done) | omega | (simp only [gl1, gl2]; omega)) only [go_sem, ↓reduceIte, Nat.reduceEqDiff, Nat.reduceAdd, Nat.reduceMul, Nat.reduceSub, Int.reduceToNat, Nat.reduceBEq], by simp (disch := first | (simp only [go_sem, gb0, eq_self]; done) | omega | (simp only [gl1, gl2]; omega)) only [go_sem, ↓reduceIte, Nat.reduceEqDiff, Nat.reduceAdd, Nat.reduceMul, Nat.reduceSub, Int.reduceToNat, Nat.reduceBEq], by simp (disch := first | (simp only [go_sem, gb0, eq_self]; done) | omega | (simp only [gl1, gl2]; omega)) only [go_sem, ↓reduceIte, Nat.reduceEqDiff, Nat.reduceAdd, Nat.reduceMul, Nat.reduceSub, Int.reduceToNat, Nat.reduceBEq, hbl], by simp (disch := first | (simp only [go_sem, gb0, eq_self]; done) | omega | (simp only [gl1, gl2]; omega)) only [go_sem, ↓reduceIte, Nat.reduceEqDiff, Nat.reduceAdd, Nat.reduceMul, Nat.reduceSub, Int.reduceToNat, Nat.reduceBEq]; decide, by simp (disch := first | (simp only [go_sem, gb0, eq_self]; done) | omega | (simp only [gl1, gl2]; omega)) only [go_sem, ↓reduceIte, Nat.reduceEqDiff, Nat.reduceAdd, Nat.reduceMul, Nat.reduceSub, Int.reduceToNat, Nat.reduceBEq], .nil, by simp (disch := first | (simp only [go_sem, gb0, eq_self]; done) | omega | (simp only [gl1, gl2]; omega)) only [go_sem, ↓reduceIte, Nat.reduceEqDiff, Nat.reduceAdd, Nat.reduceMul, Nat.reduceSub, Int.reduceToNat, Nat.reduceBEq], .inl ⟨rfl, rfl⟩⟩ ?_
      rintro i st g hi s16 ⟨s1, s5, s14, s15, hgn, g0, y, s6, oy⟩
      by_cases hin : i < n
      case neg =>
        have hie : i = n := by omega
        subst hie
        simp (disch := first | (simp only [go_sem, gb0, eq_self]; done) | omega | (simp only [gl1, gl2]; omega)) only [go_sem, ↓reduceIte, Nat.reduceEqDiff, Nat.reduceAdd, Nat.reduceMul, Nat.reduceSub, Int.reduceToNat, Nat.reduceBEq, s1, s5, s14, s15, s16, s6, hin]
        exact ⟨_, rfl, oy.own⟩
      have hib : i < b.length := by omega
      have hib' : (i : Int) < b.length := by omega
      have hip : i < pay.length := by omega
      have hip' : (i : Int) < pay.length := by omega
      have hfs := filtL_succ (fun i => decide ((nth b i).1 = nth pay i) && decide ((nth b i).2 = 1)) i
      have hfl := filtL_len (fun i => decide ((nth b i).1 = nth pay i) && decide ((nth b i).2 = 1)) i
      obtain ⟨ys, hys⟩ : ∃ ys, ys = stopsL n pay b i := ⟨_, rfl⟩
      have hys2 : filtL (fun i => decide ((nth b i).1 = nth pay i) && decide ((nth b i).2 = 1)) i = ys := hys.symm
      rw [← hys] at oy
      rw [hys2] at hfs hfl
      have hfs3 : stopsL n pay b (i + 1) = if (decide ((nth b i).1 = nth pay i) && decide ((nth b i).2 = 1)) = true then ys ++ [(i : Int)] else ys := hfs
      have n0 : ¬ 0 = g.nx := by omega
      have l0 : 0 < g.nx + 1 := by omega
      have l1 : g.nx < g.nx + 1 := by omega
      obtain ⟨g2, hg2⟩ : ∃ g2, g2 = (g.alloc (.cells false false [I 0, I 0])).put g.nx (some (.cells false false [I (nth b i).1, I (nth b i).2])) := ⟨_, rfl⟩
      have hg2n : g2.nx = g.nx + 1 := by rw [hg2]; rfl
      have hg20 : g2.bl 0 = some (.cells false false [LLI nx, LI pay, LI cost]) := by rw [hg2, put_bl, if_neg n0, alloc_bl, if_neg n0]; exact g0
      have hg2J : g2.bl g.nx = some (.cells false false [I (nth b i).1, I (nth b i).2]) := by rw [hg2, put_bl, if_pos rfl]
      have oy2 : OwnGe 1 (e1 I) 1 g2 y ys := oy.mono (by omega) fun id _ h3 => by
        rw [hg2, put_bl, if_neg (by omega), alloc_bl, if_neg (by omega)]
      cases hc : (decide ((nth b i).1 = nth pay i) && decide ((nth b i).2 = 1)) with
      | false =>
        rw [hc] at hfs3
        have hfs4 : stopsL n pay b (i + 1) = ys := hfs3
        simp (disch := first | (simp only [go_sem, gb0, eq_self]; done) | omega | (simp only [gl1, gl2]; omega)) only [go_sem, ↓reduceIte, Nat.reduceEqDiff, Nat.reduceAdd, Nat.reduceMul, Nat.reduceSub, Int.reduceToNat, Nat.reduceBEq, s1, s5, s14, s15, s16, s6, hin, hib, hib', hip, hip', hal2, ← hg2, hg2n, hg20, hg2J, n0, l0, l1, hc, List.drop_succ_cons]
        rw [ForK_normal]
        exact ⟨hin, by simp (disch := first | (simp only [go_sem, gb0, eq_self]; done) | omega | (simp only [gl1, gl2]; omega)) only [go_sem, ↓reduceIte, Nat.reduceEqDiff, Nat.reduceAdd, Nat.reduceMul, Nat.reduceSub, Int.reduceToNat, Nat.reduceBEq, s16], by simp (disch := first | (simp only [go_sem, gb0, eq_self]; done) | omega | (simp only [gl1, gl2]; omega)) only [go_sem, ↓reduceIte, Nat.reduceEqDiff, Nat.reduceAdd, Nat.reduceMul, Nat.reduceSub, Int.reduceToNat, Nat.reduceBEq, s1], by simp (disch := first | (simp only [go_sem, gb0, eq_self]; done) | omega | (simp only [gl1, gl2]; omega)) only [go_sem, ↓reduceIte, Nat.reduceEqDiff, Nat.reduceAdd, Nat.reduceMul, Nat.reduceSub, Int.reduceToNat, Nat.reduceBEq, s5], by simp (disch := first | (simp only [go_sem, gb0, eq_self]; done) | omega | (simp only [gl1, gl2]; omega)) only [go_sem, ↓reduceIte, Nat.reduceEqDiff, Nat.reduceAdd, Nat.reduceMul, Nat.reduceSub, Int.reduceToNat, Nat.reduceBEq, s14], by simp (disch := first | (simp only [go_sem, gb0, eq_self]; done) | omega | (simp only [gl1, gl2]; omega)) only [go_sem, ↓reduceIte, Nat.reduceEqDiff, Nat.reduceAdd, Nat.reduceMul, Nat.reduceSub, Int.reduceToNat, Nat.reduceBEq, s15], by omega, hg20, y, by simp (disch := first | (simp only [go_sem, gb0, eq_self]; done) | omega | (simp only [gl1, gl2]; omega)) only [go_sem, ↓reduceIte, Nat.reduceEqDiff, Nat.reduceAdd, Nat.reduceMul, Nat.reduceSub, Int.reduceToNat, Nat.reduceBEq, s6], by rw [hfs4]; exact oy2⟩
      | true =>
        rw [hc] at hfs3
        have hfs4 : stopsL n pay b (i + 1) = ys ++ [(i : Int)] := hfs3
        have hbs := fun h => bsB_one (P := Try.prog) 3 (I i) (I i) (I 0) h isz3 izero3 rfl rfl rfl rfl rfl rfl rfl
        have happ := app_one (P := Try.prog) oy2.own 3 8 (I 0) (i : Int) isz3 ibytes3 izero3 rfl (by omega) (by omega)
        have ln : 1 ≤ (appH g2 y ((ys ++ [(i : Int)]).flatMap (e1 I))).nx := by rw [appH_nx]; omega
        have lo : OwnGe 1 (e1 I) 1 (appH g2 y ((ys ++ [(i : Int)]).flatMap (e1 I))) (appV g2 (ys ++ [(i : Int)]).length 1) (stopsL n pay b (i + 1)) := by
          rw [hfs4]
          exact OwnGe.app _ (by omega) _
        have ll0 : (appH g2 y ((ys ++ [(i : Int)]).flatMap (e1 I))).bl 0 = some (.cells false false [LLI nx, LI pay, LI cost]) := by rw [oy2.low (by omega) (by omega)]; exact hg20
        generalize appH g2 y ((ys ++ [(i : Int)]).flatMap (e1 I)) = G at *
        generalize appV g2 (ys ++ [(i : Int)]).length 1 = u at *
        simp (disch := first | (simp only [go_sem, gb0, eq_self]; done) | omega | (simp only [gl1, gl2]; omega)) only [go_sem, ↓reduceIte, Nat.reduceEqDiff, Nat.reduceAdd, Nat.reduceMul, Nat.reduceSub, Int.reduceToNat, Nat.reduceBEq, s1, s5, s14, s15, s16, s6, hin, hib, hib', hip, hip', hal2, ← hg2, hg2n, hg20, hg2J, n0, l0, l1, hc, hbs, happ, List.drop_succ_cons]
        rw [ForK_normal]
        exact ⟨hin, by simp (disch := first | (simp only [go_sem, gb0, eq_self]; done) | omega | (simp only [gl1, gl2]; omega)) only [go_sem, ↓reduceIte, Nat.reduceEqDiff, Nat.reduceAdd, Nat.reduceMul, Nat.reduceSub, Int.reduceToNat, Nat.reduceBEq, s16], by simp (disch := first | (simp only [go_sem, gb0, eq_self]; done) | omega | (simp only [gl1, gl2]; omega)) only [go_sem, ↓reduceIte, Nat.reduceEqDiff, Nat.reduceAdd, Nat.reduceMul, Nat.reduceSub, Int.reduceToNat, Nat.reduceBEq, s1], by simp (disch := first | (simp only [go_sem, gb0, eq_self]; done) | omega | (simp only [gl1, gl2]; omega)) only [go_sem, ↓reduceIte, Nat.reduceEqDiff, Nat.reduceAdd, Nat.reduceMul, Nat.reduceSub, Int.reduceToNat, Nat.reduceBEq, s5], by simp (disch := first | (simp only [go_sem, gb0, eq_self]; done) | omega | (simp only [gl1, gl2]; omega)) only [go_sem, ↓reduceIte, Nat.reduceEqDiff, Nat.reduceAdd, Nat.reduceMul, Nat.reduceSub, Int.reduceToNat, Nat.reduceBEq, s14], by simp (disch := first | (simp only [go_sem, gb0, eq_self]; done) | omega | (simp only [gl1, gl2]; omega)) only [go_sem, ↓reduceIte, Nat.reduceEqDiff, Nat.reduceAdd, Nat.reduceMul, Nat.reduceSub, Int.reduceToNat, Nat.reduceBEq, s15], ln, ll0, _, by simp (disch := first | (simp only [go_sem, gb0, eq_self]; done) | omega | (simp only [gl1, gl2]; omega)) only [go_sem, ↓reduceIte, Nat.reduceEqDiff, Nat.reduceAdd, Nat.reduceMul, Nat.reduceSub, Int.reduceToNat, Nat.reduceBEq], lo⟩
    · rintro st h ⟨s5, y, s6, oy⟩
      obtain ⟨g, hsy, _⟩ := sealA_Own oy
      simp (disch := first | (simp only [go_sem, gb0, eq_self]; done) | omega | (simp only [gl1, gl2]; omega)) only [go_sem, ↓reduceIte, Nat.reduceEqDiff, Nat.reduceAdd, Nat.reduceMul, Nat.reduceSub, Int.reduceToNat, Nat.reduceBEq, s5, s6, hsy]
end Go.Proofs.Ytgamcclfdkpcgaa

set_option linter.unusedVariables false
set_option linter.unusedSimpArgs false
set_option maxRecDepth 10000
namespace Go.Proofs.Ytgamcclfdkpcgaa
open Go Go.Am

variable {h h' : Hp} {K : AV → Hp → Prop}

theorem stops_len (n : Nat) (pay : List Int) (b : List (Int × Int)) : (stopsL n pay b n).length ≤ n := filtL_len _ _
end Go.Proofs.Ytgamcclfdkpcgaa

set_option linter.unusedVariables false
set_option linter.unusedSimpArgs false
set_option maxRecDepth 10000
namespace Go.Proofs.Ytgamcclfdkpcgaa
open Go Go.Am

theorem filt_ok (P : Nat → Bool) (n : Nat) : ruleOK n (filtL P n) = true := by
  have hp : ((List.range n).filter P).Pairwise (· < ·) := List.Pairwise.filter _ List.pairwise_lt_range
  have hm : ∀ i (hi : i < ((List.range n).filter P).length), ((List.range n).filter P)[i] < n := fun i hi => List.mem_range.1 (List.mem_filter.1 (List.getElem_mem hi)).1
  have hl : (filtL P n).length = ((List.range n).filter P).length := by rw [filtL, List.length_map]
  have hn : ∀ i (hi : i < ((List.range n).filter P).length), nth (filtL P n) i = (((List.range n).filter P)[i] : Int) := fun i hi => by
    rw [nth, filtL, List.getElem?_map, List.getElem?_eq_getElem hi]; rfl
  rw [ruleOK]
  refine allR fun i hi => ?_
  rw [hl] at hi
  have h1 := hm i hi
  rw [posB, hn i hi, decide_eq_true (by omega), decide_eq_true (by omega)]
  by_cases h0 : i = 0
  · rw [decide_eq_true h0]; rfl
  · have h2 := (List.pairwise_iff_getElem.1 hp) (i - 1) i (by omega) hi (by omega)
    rw [hn (i - 1) (by omega), decide_eq_true (show (((List.range n).filter P)[i - 1] : Int) < _ by omega), Bool.or_true]; rfl
/-- The best values, with what they obey. -/
theorem best_all {nx : List (List Int)} {pay cost : List Int} (C : okC nx pay cost) : ∃ (V : Nat → Int) (D : Int), Bst nx.length (wF nx) (pF pay) (pF cost) V D ∧ ∀ i, i < nx.length → nth (bestL nx pay cost) i = rdP (V i) D := by
  obtain ⟨x, _, hs, hu, he⟩ := best_is C
  exact ⟨_, _, Bst.of C.ch (by have := C.n1; omega) hs hu, fun i hi => by rw [he, valL_nth pay cost x hi]⟩
theorem stop_iff {V D p : Int} (hD : 0 < D) : ((rdP V D).1 = p ∧ (rdP V D).2 = 1) ↔ V = p * D := by
  constructor
  · rintro ⟨h1, h2⟩
    have := rdP_val (a := V) hD
    rw [h1, h2, Int.mul_one] at this
    exact this.symm
  · intro h
    rw [h, rdP_whole p hD]
    exact ⟨rfl, rfl⟩
theorem stops_rule {nx : List (List Int)} {pay cost : List Int} (C : okC nx pay cost) {s : List Int} (hs : s = stopsL nx.length pay (bestL nx pay cost) nx.length) :
    ruleOK nx.length s = true ∧ sndB nx.length (wF nx) (xOf nx.length s) = true ∧ valL nx pay cost (xOf nx.length s) = bestL nx pay cost := by
  obtain ⟨V, D, b, hb⟩ := best_all C
  have hq := b.payRule C.ch (q := fun i => decide ((nth (bestL nx pay cost) i).1 = nth pay i) && decide ((nth (bestL nx pay cost) i).2 = 1)) fun i hi => by
    rw [Bool.and_eq_true, decide_eq_true_eq, decide_eq_true_eq, hb i hi, stop_iff b.pos]
  have hbit : ∀ i, i < nx.length → (decide ((nth (bestL nx pay cost) i).1 = nth pay i) && decide ((nth (bestL nx pay cost) i).2 = 1)) = ruleB (xOf nx.length s) i := fun i hi => by
    rw [xOf_bit s hi, hs, stopsL, filtL_has _ hi]
  have hsnd := sndP_congr hbit hq.1
  have hval := hq.2.congr hbit
  have hv2 := vals_of C.ch hsnd (by have := C.n1; omega)
  refine ⟨by rw [hs]; exact filt_ok _ _, sndB_iff.2 hsnd, ?_⟩
  refine list_ext_nth (by rw [valL_len, bestL_len C]) fun i hi => ?_
  rw [valL_len] at hi
  rw [valL_nth pay cost _ hi, hb i hi]
  exact rdP_cross hv2.pos b.pos (Vals.unique C.ch hsnd hv2 hval i hi)
end Go.Proofs.Ytgamcclfdkpcgaa

set_option linter.unusedVariables false
set_option linter.unusedSimpArgs false
set_option maxRecDepth 10000
namespace Go.Proofs.Ytgamcclfdkpcgaa
open Go Go.Am

variable {h h' : Hp} {K : AV → Hp → Prop}

theorem alloc_low (h : Hp) (b : Blk) {i : Nat} (hi : i < h.nx) : (h.alloc b).bl i = h.bl i := by rw [alloc_bl, if_neg (by omega)]
theorem put_low (h : Hp) (id : Nat) (b : Option Blk) {i : Nat} (hi : i ≠ id) : (h.put id b).bl i = h.bl i := by rw [put_bl, if_neg hi]

/-- A place to stop at. -/
def WPy (P : Program) (cfg : Cfg) (c : Code) (st : St) (h : Hp) (Q : Exit → St → Hp → Prop) : Prop := WP P cfg c st h Q
theorem WPy_congr {P : Program} {cfg : Cfg} {c : Code} {st st' : St} {h h' : Hp} {Q : Exit → St → Hp → Prop} (e : st = st') (e2 : h = h') : WPy P cfg c st h Q = WPy P cfg c st' h' Q := by rw [e, e2]
attribute [congr] WPy_congr
theorem stopY (n : Nat) (d : Bool) {P : Program} {cfg : Cfg} {ops : Array Oper} {st : St} {h : Hp} {Q : Exit → St → Hp → Prop} : WP P cfg (.region n ops d) st h Q = WPy P cfg (.region n ops d) st h Q := rfl
theorem WPy_go {P : Program} {cfg : Cfg} {c : Code} {st : St} {h : Hp} {Q : Exit → St → Hp → Prop} (F : St → Hp → Prop) (hF : F st h) (hw : ∀ st h, F st h → WP P cfg c st h Q) : WPy P cfg c st h Q := hw st h hF

/-- A chain that is handed over. -/
def ownCh (R : List (List Int)) (P C : List Int) : AV := .own (.agg [.fresh 1 (R.flatMap (e1 LI)), .fresh 1 (P.flatMap (e1 I)), .fresh 1 (C.flatMap (e1 I))])
theorem ownCh_free {R : List (List Int)} (P C : List Int) (h : 0 < R.length) : (ownCh R P C).isFree = false := by
  cases R with
  | nil => cases h
  | cons r R => rfl
/-- A chain of one's own, sealed: its three blocks are frozen. -/
theorem seal_own3 {g : Hp} {a b c : Nat} {R : List (List Int)} {P C : List Int} {f1 f2 f3 : Bool} (h1 : g.bl a = some (.cells f1 true (R.flatMap (e1 LI)))) (h2 : g.bl b = some (.cells f2 true (P.flatMap (e1 I)))) (h3 : g.bl c = some (.cells f3 true (C.flatMap (e1 I))))
    (ab : a ≠ b) (ac : a ≠ c) (bc : b ≠ c) : sealA g (.agg [.sl a 0 R.length 1, .sl b 0 P.length 1, .sl c 0 C.length 1]) = some (chA R P C, ((g.put a (some (.cells true true (R.flatMap (e1 LI))))).put b (some (.cells true true (P.flatMap (e1 I))))).put c (some (.cells true true (C.flatMap (e1 I))))) := by
  have s1 : sealV g (.sl a 0 R.length 1) = some (LLI R, g.put a (some (.cells true true (R.flatMap (e1 LI))))) := by
    show sealA g (.sl a 0 R.length 1) = _
    rw [sealA_sl, h1]; exact sealSl_own (f := e1 LI) (sz := 1) a R.length f1 true R rfl
  have h2' : (g.put a (some (.cells true true (R.flatMap (e1 LI))))).bl b = some (.cells f2 true (P.flatMap (e1 I))) := by rw [put_low _ _ _ ab.symm]; exact h2
  have s2 : sealV (g.put a (some (.cells true true (R.flatMap (e1 LI))))) (.sl b 0 P.length 1) = some (LI P, (g.put a (some (.cells true true (R.flatMap (e1 LI))))).put b (some (.cells true true (P.flatMap (e1 I))))) := by
    show sealA _ (.sl b 0 P.length 1) = _
    rw [sealA_sl, h2']; exact sealSl_own (f := e1 I) (sz := 1) b P.length f2 true P rfl
  have h3' : ((g.put a (some (.cells true true (R.flatMap (e1 LI))))).put b (some (.cells true true (P.flatMap (e1 I))))).bl c = some (.cells f3 true (C.flatMap (e1 I))) := by rw [put_low _ _ _ bc.symm, put_low _ _ _ ac.symm]; exact h3
  have s3 : sealV ((g.put a (some (.cells true true (R.flatMap (e1 LI))))).put b (some (.cells true true (P.flatMap (e1 I))))) (.sl c 0 C.length 1) = some (LI C, ((g.put a (some (.cells true true (R.flatMap (e1 LI))))).put b (some (.cells true true (P.flatMap (e1 I))))).put c (some (.cells true true (C.flatMap (e1 I))))) := by
    show sealA _ (.sl c 0 C.length 1) = _
    rw [sealA_sl, h3']; exact sealSl_own (f := e1 I) (sz := 1) c C.length f3 true C rfl
  have sc : sealCells g [.sl a 0 R.length 1, .sl b 0 P.length 1, .sl c 0 C.length 1] = some ([LLI R, LI P, LI C], ((g.put a (some (.cells true true (R.flatMap (e1 LI))))).put b (some (.cells true true (P.flatMap (e1 I))))).put c (some (.cells true true (C.flatMap (e1 I))))) := by
    simp only [sealCells, s1, s2, s3, Option.bind_some, Option.map_some]
  have hp : (AV.agg [.sl a 0 R.length 1, .sl b 0 P.length 1, .sl c 0 C.length 1]).isPure = false := rfl
  simp only [sealA, hp, sc, Option.map_some]
  rfl
theorem export_ownCh (t : TypeId) {a b c : Nat} {R : List (List Int)} {P C : List Int} (h1 : h.bl a = some (.cells false true (R.flatMap (e1 LI)))) (h2 : h.bl b = some (.cells false true (P.flatMap (e1 I)))) (h3 : h.bl c = some (.cells false true (C.flatMap (e1 I))))
    (ab : a ≠ b) (ac : a ≠ c) (bc : b ≠ c) : exportR Try.prog true true [t] h (.agg [.sl a 0 R.length 1, .sl b 0 P.length 1, .sl c 0 C.length 1]) = some (ownCh R P C) := by
  have e1' := freshN_own (f := e1 LI) (sz := 1) (k := 2) (u := []) h1 rfl (by simp)
  have e2' := freshN_own (f := e1 I) (sz := 1) (k := 2) (u := [a]) h2 rfl (by simp [ab.symm])
  have e3' := freshN_own (f := e1 I) (sz := 1) (k := 2) (u := [b, a]) h3 rfl (by simp [ac.symm, bc.symm])
  show (exportV Try.prog true true t h [] (.agg [.sl a 0 R.length 1, .sl b 0 P.length 1, .sl c 0 C.length 1])).bind _ = _
  have : exportV Try.prog true true t h [] (.agg [.sl a 0 R.length 1, .sl b 0 P.length 1, .sl c 0 C.length 1]) = some (ownCh R P C, h, [c, b, a]) := by
    unfold exportV
    rw [if_pos rfl, if_pos rfl, if_neg (by simp [AV.isPure, AV.pureL])]
    simp only [freshV, freshAll, e1', e2', e3', Option.bind_some, Option.map_some]
    rfl
  rw [this]; rfl
theorem importR_ownCh (R : List (List Int)) (P C : List Int) : importR h (ownCh R P C) = (.agg [.sl h.nx 0 R.length 1, .sl (h.nx + 1) 0 P.length 1, .sl (h.nx + 2) 0 C.length 1], ((h.alloc (.cells false true (R.flatMap (e1 LI)))).alloc (.cells false true (P.flatMap (e1 I)))).alloc (.cells false true (C.flatMap (e1 I)))) := by
  have e1' := fun h => importN_own (h := h) (f := e1 LI) (sz := 1) (k := 2) R
  have e2' := fun h => importN_own (h := h) (f := e1 I) (sz := 1) (k := 2) P
  have e3' := fun h => importN_own (h := h) (f := e1 I) (sz := 1) (k := 2) C
  show importV h (.own (.agg [_, _, _])) = _
  simp only [importV, mapH, e1', e2', e3']
  rfl

def offA : List Nat := [3, 4, 10, 15, 17, 28]
open Classical in
noncomputable def extA (f : FuncId) (args : List AV) : Option AV :=
  if offA.contains f = true then none else if h : ∃ r, Con Try.prog cfgX f args r then some h.choose else none
noncomputable def cfgA : Cfg := { cfg with ext := extA, own := fun f => f == 28 || (f == 17 || f == 15), keepNil := fun f => f == 17 || f == 15, late := fun a b => if a == 1 && b == 9 then [7] else if a == 4 && b == 8 then [4, 5] else [], strict := fun a b => cfg.strict a b || (a == 4 && b == 8) }
theorem pureX : ∀ f args r, cfgX.ext f args = some r → cfgX.own f = false → r.isPure = true := fun f args r he ho => (hextX f args r he).2 ho
theorem hextA : ExtOk Try.prog cfgA := by
  intro f args r he
  have he : extA f args = some r := he
  unfold extA at he
  split at he
  · cases he
  · split at he
    · rename_i h
      cases he
      obtain ⟨k, hk⟩ := h.choose_spec
      exact ⟨(sound hextX k).2.2.1 _ _ _ hk, fun ho => callP_pure (P := Try.prog) (cfg := cfgX) pureX rfl hk⟩
    · cases he
theorem liftA {f : FuncId} {args : List AV} {r : AV} (hb : offA.contains f = false) (hc : Con Try.prog cfgX f args r) : Con Try.prog cfgA f args r := by
  refine ⟨1, ?_⟩
  have : extA f args = some r := by
    unfold extA
    have hex : ∃ r, Con Try.prog cfgX f args r := ⟨r, hc⟩
    rw [if_neg (by rw [hb]; decide), dif_pos hex]
    obtain ⟨k, hk⟩ := hex.choose_spec
    obtain ⟨k', hk'⟩ := hc
    rw [callP_det hk hk']
  show (match extA f args with | some r => some r | none => _) = _
  rw [this]
@[go_sem] theorem cfgA_strict (a b : Nat) : cfgA.strict a b = (cfg.strict a b || (a == 4 && b == 8)) := rfl
@[go_sem] theorem cfgA_shr (f : Nat) : cfgA.shared f = cfg.shared f := rfl
@[go_sem] theorem ownA15 : cfgA.own 15 = true := rfl
@[go_sem] theorem ownA17 : cfgA.own 17 = true := rfl
@[go_sem] theorem ownA28 : cfgA.own 28 = true := rfl
@[go_sem] theorem ownA30 : cfgA.own 30 = false := rfl
@[go_sem] theorem cfgA_kn15 : cfgA.keepNil 15 = true := rfl
@[go_sem] theorem cfgA_kn17 : cfgA.keepNil 17 = true := rfl
@[go_sem] theorem cfgA_kn28 : cfgA.keepNil 28 = false := rfl
@[go_sem] theorem cfgA_wr (a b : Nat) : cfgA.wr a b = cfg.wr a b := rfl
theorem okA15 : funcOk cfgA Try.f15 (Try.f15.body.getD .skip) = true := by kernel_rfl
theorem okA17 : funcOk cfgA Try.f17 (Try.f17.body.getD .skip) = true := by kernel_rfl
theorem okA28 : funcOk cfgA Try.f28 (Try.f28.body.getD .skip) = true := by kernel_rfl
theorem f28A (l : List Int) (hl : l.length ≤ maxLen) : Con Try.prog cfgA 28 [LI l] (.fresh 1 ((listM l).flatMap (e1 I))) := by
  have ml : maxLen = 9223372036854775807 := by decide
  have hmin : min (l.length : Int) 8 = ((min l.length 8 : Nat) : Int) := by omega
  have htl : (listM l).length = min l.length 8 := by rw [listM, List.length_take]; omega
  have hrow : l.take (min l.length 8) = listM l := rfl
  have happ1 := fun h => app_nil (P := Try.prog) (h := h) (f := e1 I) 3 8 (I 0) (LI (listM l)) (listM l) isz3 ibytes3 izero3 rfl (cellsOf_L _ _) (lenA_L _ _) (by omega) (by omega)
  refine Con_intro Try.func28 rfl okA28 (Nat.le_of_ble_eq_true rfl) rfl ?_
  simp only [Try.f28, Option.getD_some, initSt1]
  simp (disch := first | (simp only [go_sem, gb0, eq_self]; done) | omega | (simp only [gl1, gl2]; omega)) only [go_sem, ↓reduceIte, Nat.reduceEqDiff, Nat.reduceAdd, Nat.reduceMul, Nat.reduceSub, Int.reduceToNat, Nat.reduceBEq, hmin, hrow, happ1]
  exact export_fresh (f := e1 I) false 23 3 und23 isz3 (.inr ⟨0, rfl, Nat.lt_succ_self 0, rfl⟩)
theorem kA28 (l : List Int) (hl : l.length ≤ maxLen) : ConW Try.prog cfgA 28 h (some ([LI l], h')) K = K (.sl h'.nx 0 (listM l).length 1) (h'.alloc (.cells false true ((listM l).flatMap (e1 I)))) := by
  rw [ConW_any (f28A l hl) rfl, importR_fresh, fresh_len]
end Go.Proofs.Ytgamcclfdkpcgaa

set_option linter.unusedVariables false
set_option linter.unusedSimpArgs false
set_option maxRecDepth 10000
namespace Go.Proofs.Ytgamcclfdkpcgaa
open Go Go.Am

variable {h h' : Hp} {K : AV → Hp → Prop}

theorem f17_A (nx : List (List Int)) (pay cost : List Int) (hk : okN nx pay cost) (h0 : 0 < nx.length) : Con Try.prog cfgA 17 [chA nx pay cost] (ownCh (nxM nx) (listM pay) (listM cost)) := by
  have ml : maxLen = 9223372036854775807 := by decide
  have hn := hk.n
  have hal : ∀ g : Hp, allocB g (some (chA nx pay cost)) = some (.ptr g.nx 0, g.alloc (.cells false false [LLI nx, LI pay, LI cost])) := fun g => allocB_agg _ rfl
  have kp := fun h h' K => kA28 (h := h) (h' := h') (K := K) pay hk.p
  have kc := fun h h' K => kA28 (h := h) (h' := h') (K := K) cost hk.c
  have hal2 : ∀ g : Hp, allocB g (some (.agg [.nil, .nil, .nil])) = some (.ptr g.nx 0, g.alloc (.cells false false [.nil, .nil, .nil])) := fun g => allocB_agg _ rfl
  refine Con_intro Try.func17 rfl okA17 (Nat.le_of_ble_eq_true rfl) rfl ?_
  simp only [Try.f17, Option.getD_some, initSt1]
  have h03 : st0 3 = .skp := rfl
  have hbd : ∀ (x y : Nat), buildB Try.prog (Try.prog.underlying 25) (izero Try.prog 25) [(1, .sl x 0 (listM pay).length 1), (2, .sl y 0 (listM cost).length 1)] = some (.agg [.nil, .sl x 0 (listM pay).length 1, .sl y 0 (listM cost).length 1]) := fun x y => by kernel_rfl
  simp only [und25, izero25] at hbd
  have hs3 : ∀ (g : Hp) (id x y : Nat), storeC g id 0 3 (some (.cells false false [.nil, .nil, .nil])) [.nil, .sl x 0 (listM pay).length 1, .sl y 0 (listM cost).length 1] = some (.skp, g.put id (some (.cells false false [.nil, .sl x 0 (listM pay).length 1, .sl y 0 (listM cost).length 1]))) := fun g id x y => by simp [storeC, setL, AV.isCell]
  simp (maxSteps := 3000000) (disch := first | (simp only [go_sem, gb0, eq_self]; done) | omega | (simp only [gl1, gl2]; omega)) only [go_sem, ↓reduceIte, Nat.reduceEqDiff, Nat.reduceAdd, Nat.reduceMul, Nat.reduceSub, Int.reduceToNat, Nat.reduceBEq, hal, hal2, kp, kc, h03, hbd, hs3, List.filterMap_cons, List.filterMap_nil, List.contains_nil, List.contains_cons, Bool.not_false, Bool.not_true, Bool.or_true, Bool.true_or, List.nil_append, List.cons_append, Nat.reduceLT, decide_true, decide_false, List.drop_succ_cons]
  obtain ⟨fr, hfr⟩ : ∃ fr : Nat → List Int, fr = fun i => listM (nth nx i) := ⟨_, rfl⟩
  have hnm : nxM nx = (List.range (min nx.length 8)).map fr := by rw [hfr, nxM]
  obtain ⟨b, hb⟩ : ∃ b, b = AV.sl 2 0 (listM pay).length 1 := ⟨_, rfl⟩
  obtain ⟨c, hc⟩ : ∃ c, c = AV.sl 3 0 (listM cost).length 1 := ⟨_, rfl⟩
  have cb : b.isCell = true := by rw [hb]; rfl
  have cc : c.isCell = true := by rw [hc]; rfl
  have dbc : Dis b c := by
    intro id off n sz id' off' n' sz' x y
    rw [hb] at x; rw [hc] at y
    cases x; cases y; omega
  refine WP_cut (fun st g => st 2 = .ptr 1 0 ∧ st 3 = .ptr 4 0 ∧ 4 < g.nx ∧ g.bl 1 = some (.cells false false [.nil, .nil, .nil]) ∧ ∃ v, g.bl 4 = some (.cells false false [v, b, c]) ∧ Go.Am.Own (e1 LI) 1 g v (nxM nx) ∧ (Go.Am.Own (e1 I) 1 g b (listM pay) ∧ Go.Am.Own (e1 I) 1 g c (listM cost) ∧ Dis v b ∧ Dis v c)) ?_ ?_
  · refine WP_for 4 (min nx.length 8) (fun i st g => st 1 = .ptr 0 0 ∧ st 2 = .ptr 1 0 ∧ st 3 = .ptr 4 0 ∧ 4 < g.nx ∧ g.bl 0 = some (.cells false false [LLI nx, LI pay, LI cost]) ∧ g.bl 1 = some (.cells false false [.nil, .nil, .nil]) ∧ ∃ v, g.bl 4 = some (.cells false false [v, b, c]) ∧ Go.Am.Own (e1 LI) 1 g v ((List.range i).map fr) ∧ (Go.Am.Own (e1 I) 1 g b (listM pay) ∧ Go.Am.Own (e1 I) 1 g c (listM cost) ∧ Dis v b ∧ Dis v c)) (by simp (disch := first | (simp only [go_sem, gb0, eq_self]; done) | omega | (simp only [gl1, gl2]; omega)) only [go_sem, ↓reduceIte, Nat.reduceEqDiff, Nat.reduceAdd, Nat.reduceMul, Nat.reduceSub, Int.reduceToNat, Nat.reduceBEq])
      ⟨by simp (disch := first | (simp only [go_sem, gb0, eq_self]; done) | omega | (simp only [gl1, gl2]; omega)) only [go_sem, ↓reduceIte, Nat.reduceEqDiff, Nat.reduceAdd, Nat.reduceMul, Nat.reduceSub, Int.reduceToNat, Nat.reduceBEq], by simp (disch := first | (simp only [go_sem, gb0, eq_self]; done) | omega | (simp only [gl1, gl2]; omega)) only [go_sem, ↓reduceIte, Nat.reduceEqDiff, Nat.reduceAdd, Nat.reduceMul, Nat.reduceSub, Int.reduceToNat, Nat.reduceBEq], by simp (disch := first | (simp only [go_sem, gb0, eq_self]; done) | omega | (simp only [gl1, gl2]; omega)) only [go_sem, ↓reduceIte, Nat.reduceEqDiff, Nat.reduceAdd, Nat.reduceMul, Nat.reduceSub, Int.reduceToNat, Nat.reduceBEq], by simp (disch := first | (simp only [go_sem, gb0, eq_self]; done) | omega | (simp only [gl1, gl2]; omega)) only [go_sem, ↓reduceIte, Nat.reduceEqDiff, Nat.reduceAdd, Nat.reduceMul, Nat.reduceSub, Int.reduceToNat, Nat.reduceBEq]; decide, by simp (disch := first | (simp only [go_sem, gb0, eq_self]; done) | omega | (simp only [gl1, gl2]; omega)) only [go_sem, ↓reduceIte, Nat.reduceEqDiff, Nat.reduceAdd, Nat.reduceMul, Nat.reduceSub, Int.reduceToNat, Nat.reduceBEq], by simp (disch := first | (simp only [go_sem, gb0, eq_self]; done) | omega | (simp only [gl1, gl2]; omega)) only [go_sem, ↓reduceIte, Nat.reduceEqDiff, Nat.reduceAdd, Nat.reduceMul, Nat.reduceSub, Int.reduceToNat, Nat.reduceBEq], .nil, by simp (disch := first | (simp only [go_sem, gb0, eq_self]; done) | omega | (simp only [gl1, gl2]; omega)) only [go_sem, ↓reduceIte, Nat.reduceEqDiff, Nat.reduceAdd, Nat.reduceMul, Nat.reduceSub, Int.reduceToNat, Nat.reduceBEq, hb, hc], .inl ⟨rfl, rfl⟩, ⟨.inr ⟨2, hb, by simp (disch := first | (simp only [go_sem, gb0, eq_self]; done) | omega | (simp only [gl1, gl2]; omega)) only [go_sem, ↓reduceIte, Nat.reduceEqDiff, Nat.reduceAdd, Nat.reduceMul, Nat.reduceSub, Int.reduceToNat, Nat.reduceBEq]; decide, by simp (disch := first | (simp only [go_sem, gb0, eq_self]; done) | omega | (simp only [gl1, gl2]; omega)) only [go_sem, ↓reduceIte, Nat.reduceEqDiff, Nat.reduceAdd, Nat.reduceMul, Nat.reduceSub, Int.reduceToNat, Nat.reduceBEq]⟩, .inr ⟨3, hc, by simp (disch := first | (simp only [go_sem, gb0, eq_self]; done) | omega | (simp only [gl1, gl2]; omega)) only [go_sem, ↓reduceIte, Nat.reduceEqDiff, Nat.reduceAdd, Nat.reduceMul, Nat.reduceSub, Int.reduceToNat, Nat.reduceBEq]; decide, by simp (disch := first | (simp only [go_sem, gb0, eq_self]; done) | omega | (simp only [gl1, gl2]; omega)) only [go_sem, ↓reduceIte, Nat.reduceEqDiff, Nat.reduceAdd, Nat.reduceMul, Nat.reduceSub, Int.reduceToNat, Nat.reduceBEq]⟩, Dis.nil_l _, Dis.nil_l _⟩⟩ ?_
    rintro i st g hi s4 ⟨s1, s2, s3, gn, b0, b1, v, b4, ov, ⟨ob, oc, db, dc⟩⟩
    have fin : i = min nx.length 8 → Go.Am.Own (e1 LI) 1 g v (nxM nx) := fun hie => by
      rw [hnm, ← hie]
      exact ov
    by_cases hlt : i < nx.length
    case neg =>
      have hf := fin (by omega)
      simp (disch := first | (simp only [go_sem, gb0, eq_self]; done) | omega | (simp only [gl1, gl2]; omega)) only [go_sem, ↓reduceIte, Nat.reduceEqDiff, Nat.reduceAdd, Nat.reduceMul, Nat.reduceSub, Int.reduceToNat, Nat.reduceBEq, s1, s2, s3, s4, b0, hlt]
      exact ⟨gn, b1, v, b4, hf, ⟨ob, oc, db, dc⟩⟩
    by_cases h8 : (i : Int) < 8
    case neg =>
      have hf := fin (by omega)
      simp (disch := first | (simp only [go_sem, gb0, eq_self]; done) | omega | (simp only [gl1, gl2]; omega)) only [go_sem, ↓reduceIte, Nat.reduceEqDiff, Nat.reduceAdd, Nat.reduceMul, Nat.reduceSub, Int.reduceToNat, Nat.reduceBEq, s1, s2, s3, s4, b0, hlt, h8]
      exact ⟨gn, b1, v, b4, hf, ⟨ob, oc, db, dc⟩⟩
    have hil : (i : Int) < nx.length := by omega
    have kr := fun h h' K => kA28 (h := h) (h' := h') (K := K) (nth nx i) (hk.row _ (nth_mem hlt))
    have hri : listM (nth nx i) = fr i := by rw [hfr]
    rw [hri] at kr
    obtain ⟨J, hJ⟩ : ∃ J, J = g.nx := ⟨_, rfl⟩
    obtain ⟨G1, hG1⟩ : ∃ G1, G1 = g.alloc (.cells false true ((fr i).flatMap (e1 I))) := ⟨_, rfl⟩
    have G1J : G1.bl J = some (.cells false true ((fr i).flatMap (e1 I))) := by rw [hG1, alloc_bl, if_pos hJ]
    have G1n : G1.nx = J + 1 := by rw [hG1, hJ]; rfl
    have G1o : ∀ id, id < J → G1.bl id = g.bl id := fun id hid => by rw [hG1]; exact alloc_low _ _ (by omega)
    obtain ⟨G, hG⟩ : ∃ G, G = G1.put J (some (.cells true true ((fr i).flatMap (e1 I)))) := ⟨_, rfl⟩
    have hse : sealA G1 (.sl J 0 (fr i).length 1) = some (LI (fr i), G) := by
      rw [sealA_sl, G1J, hG]; exact sealSl_own (f := e1 I) (sz := 1) J (fr i).length false true (fr i) rfl
    have Gn : G.nx = J + 1 := by rw [hG]; exact G1n
    have Go : ∀ id, id < J → G.bl id = g.bl id := fun id hid => by rw [hG, put_low _ _ _ (by omega)]; exact G1o id hid
    have ov2 := ov.mono (h' := G) (by omega) fun id hid => Go id (by omega)
    have ob2 := ob.mono (h' := G) (by omega) fun id hid => Go id (by omega)
    have oc2 := oc.mono (h' := G) (by omega) fun id hid => Go id (by omega)
    have g0 := (Go 0 (by omega)).trans b0
    have g1 := (Go 1 (by omega)).trans b1
    have g4 := (Go 4 (by omega)).trans b4
    have hbs := bsB_one (P := Try.prog) 23 (.sl J 0 (fr i).length 1) (LI (fr i)) .nil G isz23 izero23 rfl rfl rfl hse rfl rfl (pure_L _)
    have happ := app_one (P := Try.prog) ov2 23 24 .nil (fr i) isz23 ibytes23 izero23 rfl (by simp; omega) (by simp; omega)
    obtain ⟨An, Ab, Ao, Ak⟩ := app_step ov2 ((List.range i).map fr ++ [fr i])
    obtain ⟨Aob, db'⟩ := Ak ob2 db
    obtain ⟨Aoc, dc'⟩ := Ak oc2 dc
    have A0 := Ab 0 _ _ g0 (by omega)
    have A1 := Ab 1 _ _ g1 (by omega)
    have A4 := Ab 4 _ _ g4 (by omega)
    clear Ak Ab
    rw [rows_snoc] at Ao
    have hV : appV G ((List.range i).map fr ++ [fr i]).length 1 = .sl G.nx 0 ((List.range i).map fr ++ [fr i]).length 1 := rfl
    have hl' : ((List.range i).map fr ++ [fr i]).length = ((List.range (i + 1)).map fr).length := by simp
    rw [hV] at happ db' dc'
    rw [show appV G ((List.range (i + 1)).map fr).length 1 = .sl G.nx 0 ((List.range i).map fr ++ [fr i]).length 1 by rw [hl']; rfl] at Ao
    rw [← rows_snoc] at Ao
    generalize appH G v (((List.range i).map fr ++ [fr i]).flatMap (e1 LI)) = A at *
    obtain ⟨V, hVe⟩ : ∃ V, V = AV.sl G.nx 0 ((List.range i).map fr ++ [fr i]).length 1 := ⟨_, rfl⟩
    rw [← hVe] at happ Ao db' dc'
    rw [rows_snoc] at Ao
    have lV : V.cells = [V] := by rw [hVe]; rfl
    have cV := own_cell Ao
    have hst : storeC A 4 0 1 (some (.cells false false [v, b, c])) [V] = some (.skp, A.put 4 (some (.cells false false [V, b, c]))) := by simp [storeC, setL, cV, cb, cc]
    simp (disch := first | (simp only [go_sem, gb0, eq_self]; done) | omega | (simp only [gl1, gl2]; omega)) only [go_sem, ↓reduceIte, Nat.reduceEqDiff, Nat.reduceAdd, Nat.reduceMul, Nat.reduceSub, Int.reduceToNat, Nat.reduceBEq, s1, s2, s3, s4, b0, b4, hlt, hil, h8, kr, ← hJ, ← hG1, hbs, happ, A4, lV, hst]
    rw [ForK_normal]
    exact ⟨by omega, by simp (disch := first | (simp only [go_sem, gb0, eq_self]; done) | omega | (simp only [gl1, gl2]; omega)) only [go_sem, ↓reduceIte, Nat.reduceEqDiff, Nat.reduceAdd, Nat.reduceMul, Nat.reduceSub, Int.reduceToNat, Nat.reduceBEq, s4], by simp (disch := first | (simp only [go_sem, gb0, eq_self]; done) | omega | (simp only [gl1, gl2]; omega)) only [go_sem, ↓reduceIte, Nat.reduceEqDiff, Nat.reduceAdd, Nat.reduceMul, Nat.reduceSub, Int.reduceToNat, Nat.reduceBEq, s1], by simp (disch := first | (simp only [go_sem, gb0, eq_self]; done) | omega | (simp only [gl1, gl2]; omega)) only [go_sem, ↓reduceIte, Nat.reduceEqDiff, Nat.reduceAdd, Nat.reduceMul, Nat.reduceSub, Int.reduceToNat, Nat.reduceBEq, s2], by simp (disch := first | (simp only [go_sem, gb0, eq_self]; done) | omega | (simp only [gl1, gl2]; omega)) only [go_sem, ↓reduceIte, Nat.reduceEqDiff, Nat.reduceAdd, Nat.reduceMul, Nat.reduceSub, Int.reduceToNat, Nat.reduceBEq, s3], show _ < A.nx by omega, by rw [put_low _ _ _ (by omega)]; exact A0, by rw [put_low _ _ _ (by omega)]; exact A1, V, by rw [put_bl, if_pos rfl], own_put Ao A4 _, ⟨own_put Aob A4 _, own_put Aoc A4 _, db', dc'⟩⟩
  · rintro st g ⟨s2, s3, gn, b1, v, b4, ov, ⟨ob, oc, db, dc⟩⟩
    have cv := own_cell ov
    have hs3 : storeC g 1 0 3 (some (.cells false false [.nil, .nil, .nil])) [v, b, c] = some (.skp, g.put 1 (some (.cells false false [v, b, c]))) := by simp [storeC, setL, cv, cb, cc]
    have hl0 : 0 < (nxM nx).length := by simp [nxM]; omega
    obtain ⟨a, rfl, ha, hba⟩ := (own_put ov b1 (some (.cells false false [v, b, c]))).sl hl0
    have ob' := own_put ob b1 (some (.cells false false [.sl a 0 (nxM nx).length 1, b, c]))
    have oc' := own_put oc b1 (some (.cells false false [.sl a 0 (nxM nx).length 1, b, c]))
    rcases ob' with ⟨e, _⟩ | ⟨b', e, _, hbb⟩
    · rw [hb] at e; cases e
    have eb := hb.symm.trans e; cases eb
    rcases oc' with ⟨e, _⟩ | ⟨c', e2, _, hbc⟩
    · rw [hc] at e; cases e
    have ec := hc.symm.trans e2; cases ec
    rw [hb, hc] at hba hbb hbc
    simp (disch := first | (simp only [go_sem, gb0, eq_self]; done) | omega | (simp only [gl1, gl2]; omega)) only [go_sem, ↓reduceIte, Nat.reduceEqDiff, Nat.reduceAdd, Nat.reduceMul, Nat.reduceSub, Int.reduceToNat, Nat.reduceBEq, s2, s3, b1, b4, hs3, hb, hc]
    have hx := export_ownCh 25 hba hbb hbc (fun e => db _ _ _ _ _ _ _ _ rfl hb e) (fun e => dc _ _ _ _ _ _ _ _ rfl hc e) (by decide)
    exact hx
end Go.Proofs.Ytgamcclfdkpcgaa

set_option linter.unusedVariables false
set_option linter.unusedSimpArgs false
set_option maxRecDepth 10000
namespace Go.Proofs.Ytgamcclfdkpcgaa
open Go Go.Am

variable {h h' : Hp} {K : AV → Hp → Prop}

open Classical in
noncomputable def extB (f : FuncId) (args : List AV) : Option AV :=
  if decide (f = 15) = true then none else if h : ∃ r, Con Try.prog cfg f args r then some h.choose else none
noncomputable def cfgB : Cfg := { cfg with ext := extB, own := fun f => f == 15, keepNil := fun f => f == 15 }
theorem hextB : ExtOk Try.prog cfgB := by
  intro f args r he
  have he : extB f args = some r := he
  unfold extB at he
  split at he
  · cases he
  · split at he
    · rename_i h
      cases he
      obtain ⟨k, hk⟩ := h.choose_spec
      exact ⟨(sound hext0 k).2.2.1 _ _ _ hk, fun ho => callP_pure (P := Try.prog) (cfg := cfg) (fun _ _ _ h => by cases h) rfl hk⟩
    · cases he
theorem toB {f : FuncId} {args : List AV} {r : AV} (hb : decide (f = 15) = false) (hc : Con Try.prog cfg f args r) : Con Try.prog cfgB f args r := by
  refine ⟨1, ?_⟩
  have : extB f args = some r := by
    unfold extB
    have hex : ∃ r, Con Try.prog cfg f args r := ⟨r, hc⟩
    rw [if_neg (by rw [hb]; decide), dif_pos hex]
    obtain ⟨k, hk⟩ := hex.choose_spec
    obtain ⟨k', hk'⟩ := hc
    rw [callP_det hk hk']
  show (match extB f args with | some r => some r | none => _) = _
  rw [this]
@[go_sem] theorem cfgB_strict (a b : Nat) : cfgB.strict a b = cfg.strict a b := rfl
@[go_sem] theorem cfgB_shr (f : Nat) : cfgB.shared f = cfg.shared f := rfl
@[go_sem] theorem cfgB_wr (a b : Nat) : cfgB.wr a b = cfg.wr a b := rfl
@[go_sem] theorem ownB15 : cfgB.own 15 = true := rfl
@[go_sem] theorem cfgB_kn15 : cfgB.keepNil 15 = true := rfl
theorem okB15 : funcOk cfgB Try.f15 (Try.f15.body.getD .skip) = true := by kernel_rfl

theorem f15_B (nx : List (List Int)) (pay cost : List Int) (hk : okN nx pay cost) (m : Nat) (hm : 1 ≤ m ∧ m ≤ 5) (c1 : (chB (nxM nx) (listM pay) (listM cost) && decide ((nxM nx).length ≤ m)) = false) : ∃ nx' pay' cost', (chB nx' pay' cost' = true ∧ nx'.length ≤ m) ∧ Con Try.prog cfgB 15 [chA nx pay cost, I m] (ownCh nx' pay' cost') := by
  have ml : maxLen = 9223372036854775807 := by decide
  have hal : ∀ (g : Hp) nx pay cost, allocB g (some (chA nx pay cost)) = some (.ptr g.nx 0, g.alloc (.cells false false [LLI nx, LI pay, LI cost])) := fun g _ _ _ => allocB_agg _ rfl
  have hal2 : ∀ g : Hp, allocB g (some (.agg [.nil, .nil, .nil])) = some (.ptr g.nx 0, g.alloc (.cells false false [.nil, .nil, .nil])) := fun g => allocB_agg _ rfl
  have hse : ∀ (h : Hp) nx pay cost, sealA h (chA nx pay cost) = some (chA nx pay cost, h) := fun h _ _ _ => sealA_agg _ (by simp only [AV.pureL, pure_L, Bool.and_true])
  have k17 := fun h h' K => ConW_any (h := h) (h' := h') (K := K) (toB (by decide) (f17_con nx pay cost hk)) (by unfold chV; split <;> rfl) (by unfold chV; split <;> rfl)
  have hk2 := okN.copy nx pay cost
  have hx8 := nxM_len nx
  generalize nxM nx = nx2 at *
  generalize listM pay = pay2 at *
  generalize listM cost = cost2 at *
  obtain ⟨f0, hf0⟩ : ∃ f0, f0 = if nx2 = [] then AV.nil else LLI nx2 := ⟨_, rfl⟩
  have hch : chV nx2 pay2 cost2 = .agg [f0, LI pay2, LI cost2] := by rw [hf0, chV]; split <;> rfl
  have hfc : f0.isCell = true := by rw [hf0]; split <;> rfl
  have hfp : f0.isPure = true := by rw [hf0]; split <;> first | rfl | exact pure_L _
  have hlen : ∀ h lim, lenB (some (.slice 23)) f0 h lim = some (I nx2.length) := fun h lim => by
    rw [hf0]; split
    · rename_i e; rw [e]; rfl
    · simp only [go_sem]
  have hi1 : ∀ h : Hp, importR h (.agg [f0, LI pay2, LI cost2]) = (.agg [f0, LI pay2, LI cost2], h) := fun _ => rfl
  have hst : ∀ (g : Hp) (id : Nat), storeC g id 0 3 (some (.cells false false [.nil, .nil, .nil])) [f0, LI pay2, LI cost2] = some (.skp, g.put id (some (.cells false false [f0, LI pay2, LI cost2]))) := fun g id => by
    have h1 : (LI pay2).isCell = true := rfl
    have h2 : (LI cost2).isCell = true := rfl
    simp [storeC, setL, hfc, h1, h2]
  have hse1 : ∀ h : Hp, sealA h (.agg [f0, LI pay2, LI cost2]) = some (.agg [f0, LI pay2, LI cost2], h) := fun h => sealA_agg _ (by simp only [AV.pureL, hfp, pure_L, Bool.and_true])
  rw [hch] at k17
  obtain ⟨b0, kb, hb0⟩ : ∃ b0, Con Try.prog cfg 30 [.agg [f0, LI pay2, LI cost2]] (.bool b0) ∧ (b0 = true → ¬ (nx2.length : Int) ≤ m) := by
    by_cases e : nx2 = []
    · exact ⟨false, by rw [hf0, if_pos e]; exact f30_nil pay2 cost2, fun h => by cases h⟩
    · refine ⟨chB nx2 pay2 cost2, by rw [hf0, if_neg e]; exact f30_con nx2 pay2 cost2 hk2, fun h => ?_⟩
      rw [h, Bool.true_and, decide_eq_false_iff_not] at c1
      omega
  have k30 := fun h h' K => ConW_num (h := h) (h' := h') (K := K) (toB (by decide) kb) rfl
  have hmb := modI_bounds ((nx2.length : Int) - 1) (n := m) (by omega)
  have k18 := fun h h' K => ConW_num (h := h) (h' := h') (K := K) (toB (by decide) (f18_con ((nx2.length : Int) - 1) m (by omega))) rfl
  obtain ⟨n, hn⟩ : ∃ n : Nat, 1 + modI ((nx2.length : Int) - 1) m = (n : Int) := ⟨(1 + modI ((nx2.length : Int) - 1) m).toNat, by omega⟩
  have hn1 : 1 ≤ n := by omega
  have hnm : n ≤ m := by omega
  suffices hh : ∃ R P C, goodR n R P C n ∧ Con Try.prog cfgB 15 [chA nx pay cost, I m] (ownCh R P C) by
    obtain ⟨R, P, C, hg, hc⟩ := hh
    exact ⟨R, P, C, ⟨hg.chB hn1 (by omega), by rw [hg.1.1]; exact hnm⟩, hc⟩
  suffices hh : ∃ r, (∃ R P C, goodR n R P C n ∧ r = ownCh R P C) ∧ Con Try.prog cfgB 15 [chA nx pay cost, I m] r by
    obtain ⟨r, ⟨R, P, C, hg, rfl⟩, hc⟩ := hh
    exact ⟨R, P, C, hg, hc⟩
  refine Con_introE Try.func15 rfl okB15 (Nat.le_of_ble_eq_true rfl) rfl ?_
  simp only [Try.f15, Option.getD_some, initSt2]
  obtain ⟨NN, hNN⟩ : ∃ NN : List AV, NN = [.nil, .nil, .nil] := ⟨_, rfl⟩
  cases b0 <;> (
  simp (disch := first | (simp only [go_sem, gb0, eq_self]; done) | omega | (simp only [gl1, gl2]; omega)) only [go_sem, ↓reduceIte, Nat.reduceEqDiff, Nat.reduceAdd, Nat.reduceMul, Nat.reduceSub, Int.reduceToNat, Nat.reduceBEq, hal, hal2, hse, k17, hi1, hst, hse1, k30, hlen, hb0, k18, hn]
  refine WP_cut (fun st h => st 4 = .ptr 1 0 ∧ st 7 = .ptr 3 0 ∧ 4 ≤ h.nx ∧ h.bl 1 = some (.cells false false [.nil, .nil, .nil]) ∧ ∃ v w u, h.bl 3 = some (.cells false false [v, w, u]) ∧ Tri h n n v w u) ?_ ?_
  · refine WP_for 8 n (fun i st h => st 4 = .ptr 1 0 ∧ st 5 = .ptr 2 0 ∧ st 6 = I n ∧ st 7 = .ptr 3 0 ∧ 4 ≤ h.nx ∧ h.bl 1 = some (.cells false false [.nil, .nil, .nil]) ∧ h.bl 2 = some (.cells false false [f0, LI pay2, LI cost2]) ∧ ∃ v w u, h.bl 3 = some (.cells false false [v, w, u]) ∧ Tri h n i v w u) (by simp (disch := first | (simp only [go_sem, gb0, eq_self]; done) | omega | (simp only [gl1, gl2]; omega)) only [go_sem, ↓reduceIte, Nat.reduceEqDiff, Nat.reduceAdd, Nat.reduceMul, Nat.reduceSub, Int.reduceToNat, Nat.reduceBEq])
      ⟨by simp (disch := first | (simp only [go_sem, gb0, eq_self]; done) | omega | (simp only [gl1, gl2]; omega)) only [go_sem, ↓reduceIte, Nat.reduceEqDiff, Nat.reduceAdd, Nat.reduceMul, Nat.reduceSub, Int.reduceToNat, Nat.reduceBEq], by simp (disch := first | (simp only [go_sem, gb0, eq_self]; done) | omega | (simp only [gl1, gl2]; omega)) only [go_sem, ↓reduceIte, Nat.reduceEqDiff, Nat.reduceAdd, Nat.reduceMul, Nat.reduceSub, Int.reduceToNat, Nat.reduceBEq], by simp (disch := first | (simp only [go_sem, gb0, eq_self]; done) | omega | (simp only [gl1, gl2]; omega)) only [go_sem, ↓reduceIte, Nat.reduceEqDiff, Nat.reduceAdd, Nat.reduceMul, Nat.reduceSub, Int.reduceToNat, Nat.reduceBEq], by simp (disch := first | (simp only [go_sem, gb0, eq_self]; done) | omega | (simp only [gl1, gl2]; omega)) only [go_sem, ↓reduceIte, Nat.reduceEqDiff, Nat.reduceAdd, Nat.reduceMul, Nat.reduceSub, Int.reduceToNat, Nat.reduceBEq], by simp (disch := first | (simp only [go_sem, gb0, eq_self]; done) | omega | (simp only [gl1, gl2]; omega)) only [go_sem, ↓reduceIte, Nat.reduceEqDiff, Nat.reduceAdd, Nat.reduceMul, Nat.reduceSub, Int.reduceToNat, Nat.reduceBEq]; decide, by simp (disch := first | (simp only [go_sem, gb0, eq_self]; done) | omega | (simp only [gl1, gl2]; omega)) only [go_sem, ↓reduceIte, Nat.reduceEqDiff, Nat.reduceAdd, Nat.reduceMul, Nat.reduceSub, Int.reduceToNat, Nat.reduceBEq], by simp (disch := first | (simp only [go_sem, gb0, eq_self]; done) | omega | (simp only [gl1, gl2]; omega)) only [go_sem, ↓reduceIte, Nat.reduceEqDiff, Nat.reduceAdd, Nat.reduceMul, Nat.reduceSub, Int.reduceToNat, Nat.reduceBEq], .nil, .nil, .nil, by simp (disch := first | (simp only [go_sem, gb0, eq_self]; done) | omega | (simp only [gl1, gl2]; omega)) only [go_sem, ↓reduceIte, Nat.reduceEqDiff, Nat.reduceAdd, Nat.reduceMul, Nat.reduceSub, Int.reduceToNat, Nat.reduceBEq], [], [], [], .inl ⟨rfl, rfl⟩, .inl ⟨rfl, rfl⟩, .inl ⟨rfl, rfl⟩, Dis.nil_l _, Dis.nil_l _, Dis.nil_l _, ⟨rfl, rfl, rfl⟩, fun k hk => by omega⟩ ?_
    rintro i st h hi s8 ⟨s4, s5, s6, s7, hnx, b1, b2, v, w, u, b3, ht⟩
    by_cases hlt : i < n
    case neg =>
      obtain rfl : i = n := by omega
      simp (disch := first | (simp only [go_sem, gb0, eq_self]; done) | omega | (simp only [gl1, gl2]; omega)) only [go_sem, ↓reduceIte, Nat.reduceEqDiff, Nat.reduceAdd, Nat.reduceMul, Nat.reduceSub, Int.reduceToNat, Nat.reduceBEq, s4, s5, s6, s7, s8, hlt]
      exact ⟨hnx, b1, v, w, u, b3, ht⟩
    obtain ⟨R, P, C, ov, ow, ou, d1, d2, d3, hg⟩ := ht
    have hmk := fun g : Hp => makeB_int (P := Try.prog) (h := g) 3 (n : Int) isz3 ibytes3 izero3 (by omega) (by omega)
    simp only [Int.toNat_natCast, vecA_zero] at hmk
    obtain ⟨J, hJ⟩ : ∃ J, J = h.nx := ⟨_, rfl⟩
    simp (disch := first | (simp only [go_sem, gb0, eq_self]; done) | omega | (simp only [gl1, gl2]; omega)) only [go_sem, ↓reduceIte, Nat.reduceEqDiff, Nat.reduceAdd, Nat.reduceMul, Nat.reduceSub, Int.reduceToNat, Nat.reduceBEq, s4, s5, s6, s7, s8, hlt, hmk, ← hJ]
    refine WP_cut (fun st g => st 4 = .ptr 1 0 ∧ st 5 = .ptr 2 0 ∧ st 6 = I n ∧ st 7 = .ptr 3 0 ∧ st 8 = I i ∧ st 9 = .sl J 0 n 1 ∧ g.nx = J + 1 ∧ (∀ id, id < J → g.bl id = h.bl id) ∧ ∃ f, g.bl J = some (.cells false true (vecA f n)) ∧ rowB ((List.range n).map f) = true) ?_ ?_
    · refine WP_for 11 n (fun j st g => st 4 = .ptr 1 0 ∧ st 5 = .ptr 2 0 ∧ st 6 = I n ∧ st 7 = .ptr 3 0 ∧ st 8 = I i ∧ st 9 = .sl J 0 n 1 ∧ g.nx = J + 1 ∧ (∀ id, id < J → g.bl id = h.bl id) ∧ ∃ f left, st 10 = I left ∧ g.bl J = some (.cells false true (vecA f n)) ∧ rowI f left j) (by simp (disch := first | (simp only [go_sem, gb0, eq_self]; done) | omega | (simp only [gl1, gl2]; omega)) only [go_sem, ↓reduceIte, Nat.reduceEqDiff, Nat.reduceAdd, Nat.reduceMul, Nat.reduceSub, Int.reduceToNat, Nat.reduceBEq])
        ⟨by simp (disch := first | (simp only [go_sem, gb0, eq_self]; done) | omega | (simp only [gl1, gl2]; omega)) only [go_sem, ↓reduceIte, Nat.reduceEqDiff, Nat.reduceAdd, Nat.reduceMul, Nat.reduceSub, Int.reduceToNat, Nat.reduceBEq, s4], by simp (disch := first | (simp only [go_sem, gb0, eq_self]; done) | omega | (simp only [gl1, gl2]; omega)) only [go_sem, ↓reduceIte, Nat.reduceEqDiff, Nat.reduceAdd, Nat.reduceMul, Nat.reduceSub, Int.reduceToNat, Nat.reduceBEq, s5], by simp (disch := first | (simp only [go_sem, gb0, eq_self]; done) | omega | (simp only [gl1, gl2]; omega)) only [go_sem, ↓reduceIte, Nat.reduceEqDiff, Nat.reduceAdd, Nat.reduceMul, Nat.reduceSub, Int.reduceToNat, Nat.reduceBEq, s6], by simp (disch := first | (simp only [go_sem, gb0, eq_self]; done) | omega | (simp only [gl1, gl2]; omega)) only [go_sem, ↓reduceIte, Nat.reduceEqDiff, Nat.reduceAdd, Nat.reduceMul, Nat.reduceSub, Int.reduceToNat, Nat.reduceBEq, s7], by simp (disch := first | (simp only [go_sem, gb0, eq_self]; done) | omega | (simp only [gl1, gl2]; omega)) only [go_sem, ↓reduceIte, Nat.reduceEqDiff, Nat.reduceAdd, Nat.reduceMul, Nat.reduceSub, Int.reduceToNat, Nat.reduceBEq, s8], by simp (disch := first | (simp only [go_sem, gb0, eq_self]; done) | omega | (simp only [gl1, gl2]; omega)) only [go_sem, ↓reduceIte, Nat.reduceEqDiff, Nat.reduceAdd, Nat.reduceMul, Nat.reduceSub, Int.reduceToNat, Nat.reduceBEq], by simp (disch := first | (simp only [go_sem, gb0, eq_self]; done) | omega | (simp only [gl1, gl2]; omega)) only [go_sem, ↓reduceIte, Nat.reduceEqDiff, Nat.reduceAdd, Nat.reduceMul, Nat.reduceSub, Int.reduceToNat, Nat.reduceBEq]; omega, fun id hid => by rw [alloc_bl, if_neg (by omega)], fun _ => 0, 4, by simp (disch := first | (simp only [go_sem, gb0, eq_self]; done) | omega | (simp only [gl1, gl2]; omega)) only [go_sem, ↓reduceIte, Nat.reduceEqDiff, Nat.reduceAdd, Nat.reduceMul, Nat.reduceSub, Int.reduceToNat, Nat.reduceBEq], by simp (disch := first | (simp only [go_sem, gb0, eq_self]; done) | omega | (simp only [gl1, gl2]; omega)) only [go_sem, ↓reduceIte, Nat.reduceEqDiff, Nat.reduceAdd, Nat.reduceMul, Nat.reduceSub, Int.reduceToNat, Nat.reduceBEq, hJ], ⟨by decide, by decide, rfl, fun _ => ⟨Int.le_refl 0, show (0 : Int) ≤ 4 by decide⟩, fun _ _ => rfl⟩⟩ ?_
      rintro j st g hj s11 ⟨s4, s5, s6, s7, s8, s9, gn, go, f, left, s10, gJ, hr⟩
      have fin : ∃ f, g.bl J = some (.cells false true (vecA f n)) ∧ rowB ((List.range n).map f) = true := ⟨f, gJ, rowB_of (fun k _ => hr.2.2.2.1 k) (hr.sum hj)⟩
      by_cases hjn : j < n
      case neg =>
        simp (disch := first | (simp only [go_sem, gb0, eq_self]; done) | omega | (simp only [gl1, gl2]; omega)) only [go_sem, ↓reduceIte, Nat.reduceEqDiff, Nat.reduceAdd, Nat.reduceMul, Nat.reduceSub, Int.reduceToNat, Nat.reduceBEq, s4, s5, s6, s7, s8, s9, s10, s11, hjn]
        exact ⟨gn, go, fin⟩
      have g2 : g.bl 2 = some (.cells false false [f0, LI pay2, LI cost2]) := (go 2 (by omega)).trans b2
      by_cases hin : i < nx2.length
      case neg =>
        have hin' : ¬ (i : Int) < nx2.length := by omega
        simp (disch := first | (simp only [go_sem, gb0, eq_self]; done) | omega | (simp only [gl1, gl2]; omega)) only [go_sem, ↓reduceIte, Nat.reduceEqDiff, Nat.reduceAdd, Nat.reduceMul, Nat.reduceSub, Int.reduceToNat, Nat.reduceBEq, s4, s5, s6, s7, s8, s9, s10, s11, hjn, g2, hlen, hin']
        exact ⟨gn, go, fin⟩
      have hin' : (i : Int) < nx2.length := by omega
      have he : f0 = LLI nx2 := by rw [hf0, if_neg (fun e => by rw [e] at hin; cases hin)]
      rw [he] at g2
      have kat := fun h h' K => ConW_num (h := h) (h' := h') (K := K) (toB (by decide) (f36_con (nth nx2 i) (hk2.row _ (nth_mem hin)) j)) rfl
      have k5 := fun h h' K => ConW_num (h := h) (h' := h') (K := K) (toB (by decide) (f18_con (nth (nth nx2 i) j) 5 (by decide))) rfl
      have hb5 := modI_bounds (nth (nth nx2 i) j) (n := 5) (by decide)
      have hr2 := hr.step (x := modI (nth (nth nx2 i) j) 5) (by omega)
      have hjn' : (j : Int) < n := by omega
      have nJ2 : ¬ 2 = J := by omega
      obtain ⟨x, hx⟩ : ∃ x, x = min left (modI (nth (nth nx2 i) j) 5) := ⟨_, rfl⟩
      rw [← hx] at hr2
      have hl0 := hr.1
      have hl4 := hr.2.1
      have hx0 : 0 ≤ x ∧ x ≤ 4 := by omega
      have hgs : (vecA (setV f j x) n)[j]? = some (I x) := by rw [vecA_get _ _ _ hjn, setV, if_pos rfl]
      simp (disch := first | (simp only [go_sem, gb0, eq_self]; done) | omega | (simp only [gl1, gl2]; omega)) only [go_sem, ↓reduceIte, Nat.reduceEqDiff, Nat.reduceAdd, Nat.reduceMul, Nat.reduceSub, Int.reduceToNat, Nat.reduceBEq, s4, s5, s6, s7, s8, s9, s10, s11, hjn, hjn', g2, hin, hin', kat, k5, ← hx, gJ, hgs]
      rw [ForK_normal]
      exact ⟨hjn, by simp (disch := first | (simp only [go_sem, gb0, eq_self]; done) | omega | (simp only [gl1, gl2]; omega)) only [go_sem, ↓reduceIte, Nat.reduceEqDiff, Nat.reduceAdd, Nat.reduceMul, Nat.reduceSub, Int.reduceToNat, Nat.reduceBEq, s11], by simp (disch := first | (simp only [go_sem, gb0, eq_self]; done) | omega | (simp only [gl1, gl2]; omega)) only [go_sem, ↓reduceIte, Nat.reduceEqDiff, Nat.reduceAdd, Nat.reduceMul, Nat.reduceSub, Int.reduceToNat, Nat.reduceBEq, s4], by simp (disch := first | (simp only [go_sem, gb0, eq_self]; done) | omega | (simp only [gl1, gl2]; omega)) only [go_sem, ↓reduceIte, Nat.reduceEqDiff, Nat.reduceAdd, Nat.reduceMul, Nat.reduceSub, Int.reduceToNat, Nat.reduceBEq, s5], by simp (disch := first | (simp only [go_sem, gb0, eq_self]; done) | omega | (simp only [gl1, gl2]; omega)) only [go_sem, ↓reduceIte, Nat.reduceEqDiff, Nat.reduceAdd, Nat.reduceMul, Nat.reduceSub, Int.reduceToNat, Nat.reduceBEq, s6], by simp (disch := first | (simp only [go_sem, gb0, eq_self]; done) | omega | (simp only [gl1, gl2]; omega)) only [go_sem, ↓reduceIte, Nat.reduceEqDiff, Nat.reduceAdd, Nat.reduceMul, Nat.reduceSub, Int.reduceToNat, Nat.reduceBEq, s7], by simp (disch := first | (simp only [go_sem, gb0, eq_self]; done) | omega | (simp only [gl1, gl2]; omega)) only [go_sem, ↓reduceIte, Nat.reduceEqDiff, Nat.reduceAdd, Nat.reduceMul, Nat.reduceSub, Int.reduceToNat, Nat.reduceBEq, s8], by simp (disch := first | (simp only [go_sem, gb0, eq_self]; done) | omega | (simp only [gl1, gl2]; omega)) only [go_sem, ↓reduceIte, Nat.reduceEqDiff, Nat.reduceAdd, Nat.reduceMul, Nat.reduceSub, Int.reduceToNat, Nat.reduceBEq, s9], by simp (disch := first | (simp only [go_sem, gb0, eq_self]; done) | omega | (simp only [gl1, gl2]; omega)) only [go_sem, ↓reduceIte, Nat.reduceEqDiff, Nat.reduceAdd, Nat.reduceMul, Nat.reduceSub, Int.reduceToNat, Nat.reduceBEq, gn], fun id hid => by simp (disch := first | (simp only [go_sem, gb0, eq_self]; done) | omega | (simp only [gl1, gl2]; omega)) only [go_sem, ↓reduceIte, Nat.reduceEqDiff, Nat.reduceAdd, Nat.reduceMul, Nat.reduceSub, Int.reduceToNat, Nat.reduceBEq]; rw [if_neg (by omega)]; exact go id hid, setV f j x, left - x, by simp (disch := first | (simp only [go_sem, gb0, eq_self]; done) | omega | (simp only [gl1, gl2]; omega)) only [go_sem, ↓reduceIte, Nat.reduceEqDiff, Nat.reduceAdd, Nat.reduceMul, Nat.reduceSub, Int.reduceToNat, Nat.reduceBEq], by simp (disch := first | (simp only [go_sem, gb0, eq_self]; done) | omega | (simp only [gl1, gl2]; omega)) only [go_sem, ↓reduceIte, Nat.reduceEqDiff, Nat.reduceAdd, Nat.reduceMul, Nat.reduceSub, Int.reduceToNat, Nat.reduceBEq], hr2⟩
    · rintro st g ⟨s4, s5, s6, s7, s8, s9, gn, go, f, gJ, hrow⟩
      have g1 := (go 1 (by omega)).trans b1
      have g2 := (go 2 (by omega)).trans b2
      have g3 := (go 3 (by omega)).trans b3
      have gov := ov.mono (h' := g) (by omega) fun id hid => go id (by omega)
      have gow := ow.mono (h' := g) (by omega) fun id hid => go id (by omega)
      have gou := ou.mono (h' := g) (by omega) fun id hid => go id (by omega)
      obtain ⟨r, hrr⟩ : ∃ r, r = (List.range n).map f := ⟨_, rfl⟩
      have hrl : r.length = n := by rw [hrr]; simp
      have hse0 := seal_vec gJ
      rw [← hrr] at hse0 hrow
      obtain ⟨G, hG⟩ : ∃ G, G = g.put J (some (.cells true true (vecA f n))) := ⟨_, rfl⟩
      rw [← hG] at hse0
      have Gn : G.nx = J + 1 := by rw [hG]; exact gn
      have Go' : ∀ id, id < J → G.bl id = g.bl id := fun id hid => by rw [hG, put_bl, if_neg (by omega)]
      have Gh : ∀ id, id < h.nx → G.bl id = h.bl id := fun id hid => (Go' id (by omega)).trans (go id (by omega))
      have Gov := ov.mono (h' := G) (by omega) Gh
      have Gow := ow.mono (h' := G) (by omega) Gh
      have Gou := ou.mono (h' := G) (by omega) Gh
      have G1 := (Gh 1 (by omega)).trans b1
      have G2 := (Gh 2 (by omega)).trans b2
      have G3 := (Gh 3 (by omega)).trans b3
      have lR := hg.1.1
      have lP := hg.1.2.1
      have lC := hg.1.2.2
      have cw := own_cell ow
      have cu := own_cell ou
      have kp := fun h h' K => ConW_num (h := h) (h' := h') (K := K) (toB (by decide) (f36_con pay2 hk2.p i)) rfl
      have kc := fun h h' K => ConW_num (h := h) (h' := h') (K := K) (toB (by decide) (f36_con cost2 hk2.c i)) rfl
      have k1001 := fun h h' K => ConW_num (h := h) (h' := h') (K := K) (toB (by decide) (f18_con (nth pay2 i) 1001 (by decide))) rfl
      have k101 := fun h h' K => ConW_num (h := h) (h' := h') (K := K) (toB (by decide) (f18_con (nth cost2 i) 101 (by decide))) rfl
      have hpb := modI_bounds (nth pay2 i) (n := 1001) (by decide)
      have hcb := modI_bounds (nth cost2 i) (n := 101) (by decide)
      obtain ⟨p, hp⟩ : ∃ p, p = modI (nth pay2 i) 1001 := ⟨_, rfl⟩
      obtain ⟨c, hc⟩ : ∃ c, c = modI (nth cost2 i) 101 := ⟨_, rfl⟩
      rw [← hp] at k1001 hpb
      rw [← hc] at k101 hcb
      have hbs1 := bsB_one (P := Try.prog) 23 (.sl J 0 n 1) (LI r) .nil G isz23 izero23 rfl rfl rfl hse0 rfl rfl (pure_L _)
      have hbs2 := fun h => bsB_one (P := Try.prog) 3 (I p) (I p) (I 0) h isz3 izero3 rfl rfl rfl rfl rfl rfl rfl
      have hbs3 := fun h => bsB_one (P := Try.prog) 3 (I c) (I c) (I 0) h isz3 izero3 rfl rfl rfl rfl rfl rfl rfl
      -- the row goes in
      have happ1 := app_one (P := Try.prog) Gov 23 24 .nil r isz23 ibytes23 izero23 rfl (by omega) (by omega)
      obtain ⟨An, Ab, Ao, Ak⟩ := app_step Gov (R ++ [r])
      have hV1 : appV G (R ++ [r]).length 1 = .sl G.nx 0 (R ++ [r]).length 1 := rfl
      obtain ⟨Aow, e1w⟩ := Ak Gow d1
      obtain ⟨Aou, e1u⟩ := Ak Gou d2
      rw [hV1] at happ1 Ao e1w e1u
      have A1 := Ab 1 _ _ G1 (by omega)
      have A2 := Ab 2 _ _ G2 (by omega)
      have A3 := Ab 3 _ _ G3 (by omega)
      clear Ak Ab
      generalize appH G v ((R ++ [r]).flatMap (e1 LI)) = A at *
      obtain ⟨V1, hV1e⟩ : ∃ V1, V1 = AV.sl G.nx 0 (R ++ [r]).length 1 := ⟨_, rfl⟩
      rw [← hV1e] at happ1 Ao e1w e1u
      have lV1 : V1.cells = [V1] := by rw [hV1e]; rfl
      have cV1 := own_cell Ao
      have hst1 : storeC A 3 0 1 (some (.cells false false [v, w, u])) [V1] = some (.skp, A.put 3 (some (.cells false false [V1, w, u]))) := by simp [storeC, setL, cV1, cw, cu]
      obtain ⟨A', hA'⟩ : ∃ A', A' = A.put 3 (some (.cells false false [V1, w, u])) := ⟨_, rfl⟩
      have A'o := own_put Ao A3 (some (.cells false false [V1, w, u]))
      have A'ow := own_put Aow A3 (some (.cells false false [V1, w, u]))
      have A'ou := own_put Aou A3 (some (.cells false false [V1, w, u]))
      rw [← hA'] at A'o A'ow A'ou hst1
      have A'n : A'.nx = J + 2 := by rw [hA']; show A.nx = _; omega
      have A'1 : A'.bl 1 = some (.cells false false [.nil, .nil, .nil]) := by rw [hA', put_bl, if_neg (by decide)]; exact A1
      have A'2 : A'.bl 2 = some (.cells false false [f0, LI pay2, LI cost2]) := by rw [hA', put_bl, if_neg (by decide)]; exact A2
      have A'3 : A'.bl 3 = some (.cells false false [V1, w, u]) := by rw [hA', put_bl, if_pos rfl]
      -- the pay
      have happ2 := app_one (P := Try.prog) A'ow 3 8 (I 0) p isz3 ibytes3 izero3 rfl (by omega) (by omega)
      obtain ⟨Bn, Bb, Bo, Bk⟩ := app_step A'ow (P ++ [p])
      have hV2 : appV A' (P ++ [p]).length 1 = .sl A'.nx 0 (P ++ [p]).length 1 := rfl
      obtain ⟨Bov, e2v⟩ := Bk A'o e1w.symm
      obtain ⟨Bou, e2u⟩ := Bk A'ou d3
      rw [hV2] at happ2 Bo e2v e2u
      have B1 := Bb 1 _ _ A'1 (by omega)
      have B2 := Bb 2 _ _ A'2 (by omega)
      have B3 := Bb 3 _ _ A'3 (by omega)
      clear Bk Bb
      generalize appH A' w ((P ++ [p]).flatMap (e1 I)) = B at *
      obtain ⟨V2, hV2e⟩ : ∃ V2, V2 = AV.sl A'.nx 0 (P ++ [p]).length 1 := ⟨_, rfl⟩
      rw [← hV2e] at happ2 Bo e2v e2u
      have lV2 : V2.cells = [V2] := by rw [hV2e]; rfl
      have cV2 := own_cell Bo
      have hst2 : storeC B 3 1 1 (some (.cells false false [V1, w, u])) [V2] = some (.skp, B.put 3 (some (.cells false false [V1, V2, u]))) := by simp [storeC, setL, cV1, cV2, cu]
      obtain ⟨B', hB'⟩ : ∃ B', B' = B.put 3 (some (.cells false false [V1, V2, u])) := ⟨_, rfl⟩
      have B'o := own_put Bo B3 (some (.cells false false [V1, V2, u]))
      have B'ov := own_put Bov B3 (some (.cells false false [V1, V2, u]))
      have B'ou := own_put Bou B3 (some (.cells false false [V1, V2, u]))
      rw [← hB'] at B'o B'ov B'ou hst2
      have B'n : B'.nx = J + 3 := by rw [hB']; show B.nx = _; omega
      have B'1 : B'.bl 1 = some (.cells false false [.nil, .nil, .nil]) := by rw [hB', put_bl, if_neg (by decide)]; exact B1
      have B'2 : B'.bl 2 = some (.cells false false [f0, LI pay2, LI cost2]) := by rw [hB', put_bl, if_neg (by decide)]; exact B2
      have B'3 : B'.bl 3 = some (.cells false false [V1, V2, u]) := by rw [hB', put_bl, if_pos rfl]
      -- the cost
      have happ3 := app_one (P := Try.prog) B'ou 3 8 (I 0) c isz3 ibytes3 izero3 rfl (by omega) (by omega)
      obtain ⟨Dn, Db, Do, Dk⟩ := app_step B'ou (C ++ [c])
      have hV3 : appV B' (C ++ [c]).length 1 = .sl B'.nx 0 (C ++ [c]).length 1 := rfl
      obtain ⟨Dov, e3v⟩ := Dk B'ov e1u.symm
      obtain ⟨Dow, e3w⟩ := Dk B'o e2u.symm
      rw [hV3] at happ3 Do e3v e3w
      have D1 := Db 1 _ _ B'1 (by omega)
      have D2 := Db 2 _ _ B'2 (by omega)
      have D3 := Db 3 _ _ B'3 (by omega)
      clear Dk Db
      generalize appH B' u ((C ++ [c]).flatMap (e1 I)) = D at *
      obtain ⟨V3, hV3e⟩ : ∃ V3, V3 = AV.sl B'.nx 0 (C ++ [c]).length 1 := ⟨_, rfl⟩
      rw [← hV3e] at happ3 Do e3v e3w
      have lV3 : V3.cells = [V3] := by rw [hV3e]; rfl
      have cV3 := own_cell Do
      have hst3 : storeC D 3 2 1 (some (.cells false false [V1, V2, u])) [V3] = some (.skp, D.put 3 (some (.cells false false [V1, V2, V3]))) := by simp [storeC, setL, cV1, cV2, cV3]
      obtain ⟨D', hD'⟩ : ∃ D', D' = D.put 3 (some (.cells false false [V1, V2, V3])) := ⟨_, rfl⟩
      have D'o := own_put Do D3 (some (.cells false false [V1, V2, V3]))
      have D'ov := own_put Dov D3 (some (.cells false false [V1, V2, V3]))
      have D'ow := own_put Dow D3 (some (.cells false false [V1, V2, V3]))
      rw [← hD'] at D'o D'ov D'ow hst3
      have D'n : D'.nx = J + 4 := by rw [hD']; show D.nx = _; omega
      have D'1 : D'.bl 1 = some (.cells false false [.nil, .nil, .nil]) := by rw [hD', put_bl, if_neg (by decide)]; exact D1
      have D'2 : D'.bl 2 = some (.cells false false [f0, LI pay2, LI cost2]) := by rw [hD', put_bl, if_neg (by decide)]; exact D2
      have D'3 : D'.bl 3 = some (.cells false false [V1, V2, V3]) := by rw [hD', put_bl, if_pos rfl]
      have hg2 := hg.snoc hrl (p := p) (c := c) (by rw [inB, decide_eq_true (by omega), decide_eq_true (by omega)]; rfl) (by rw [inB, decide_eq_true (by omega), decide_eq_true (by omega)]; rfl) hrow
      simp (maxSteps := 3000000) (disch := first | (simp only [go_sem, gb0, eq_self]; done) | omega | (simp only [gl1, gl2]; omega)) only [go_sem, ↓reduceIte, Nat.reduceEqDiff, Nat.reduceAdd, Nat.reduceMul, Nat.reduceSub, Int.reduceToNat, Nat.reduceBEq, s4, s5, s6, s7, s8, s9, g3, hbs1, happ1, A3, lV1, hst1, A'2, A'3, kp, k1001, hbs2, happ2, B3, lV2, hst2, B'2, B'3, kc, k101, hbs3, happ3, D3, lV3, hst3, List.filterMap_cons, List.filterMap_nil, List.contains_nil, List.contains_cons, Bool.not_false, Bool.not_true, Bool.or_true, Bool.true_or, List.nil_append, List.cons_append, Nat.reduceLT, decide_true, decide_false, List.drop_succ_cons]
      rw [ForK_normal]
      exact ⟨hlt, by simp (disch := first | (simp only [go_sem, gb0, eq_self]; done) | omega | (simp only [gl1, gl2]; omega)) only [go_sem, ↓reduceIte, Nat.reduceEqDiff, Nat.reduceAdd, Nat.reduceMul, Nat.reduceSub, Int.reduceToNat, Nat.reduceBEq, s8], by simp (disch := first | (simp only [go_sem, gb0, eq_self]; done) | omega | (simp only [gl1, gl2]; omega)) only [go_sem, ↓reduceIte, Nat.reduceEqDiff, Nat.reduceAdd, Nat.reduceMul, Nat.reduceSub, Int.reduceToNat, Nat.reduceBEq, s4], by simp (disch := first | (simp only [go_sem, gb0, eq_self]; done) | omega | (simp only [gl1, gl2]; omega)) only [go_sem, ↓reduceIte, Nat.reduceEqDiff, Nat.reduceAdd, Nat.reduceMul, Nat.reduceSub, Int.reduceToNat, Nat.reduceBEq, s5], by simp (disch := first | (simp only [go_sem, gb0, eq_self]; done) | omega | (simp only [gl1, gl2]; omega)) only [go_sem, ↓reduceIte, Nat.reduceEqDiff, Nat.reduceAdd, Nat.reduceMul, Nat.reduceSub, Int.reduceToNat, Nat.reduceBEq, s6], by simp (disch := first | (simp only [go_sem, gb0, eq_self]; done) | omega | (simp only [gl1, gl2]; omega)) only [go_sem, ↓reduceIte, Nat.reduceEqDiff, Nat.reduceAdd, Nat.reduceMul, Nat.reduceSub, Int.reduceToNat, Nat.reduceBEq, s7], by omega, D'1, D'2, V1, V2, V3, D'3, R ++ [r], P ++ [p], C ++ [c], D'ov, D'ow, D'o, e2v.symm, e3v.symm, e3w.symm, hg2⟩
  · rintro st h ⟨s4, s7, hnx, b1, v, w, u, b3, R, P, C, ov, ow, ou, d1, d2, d3, hg⟩
    have cv := own_cell ov
    have cw := own_cell ow
    have cu := own_cell ou
    have hs3 : storeC h 1 0 3 (some (.cells false false [.nil, .nil, .nil])) [v, w, u] = some (.skp, h.put 1 (some (.cells false false [v, w, u]))) := by simp [storeC, setL, cv, cw, cu]
    have hR0 : 0 < R.length := by rw [hg.1.1]; omega
    have hP0 : 0 < P.length := by rw [hg.1.2.1]; omega
    have hC0 : 0 < C.length := by rw [hg.1.2.2]; omega
    obtain ⟨ia, ea, _, ha⟩ := (own_put ov b1 (some (.cells false false [v, w, u]))).sl hR0
    obtain ⟨ib, eb, _, hb⟩ := (own_put ow b1 (some (.cells false false [v, w, u]))).sl hP0
    obtain ⟨ic, ec, _, hc⟩ := (own_put ou b1 (some (.cells false false [v, w, u]))).sl hC0
    have hx := export_ownCh 25 ha hb hc (fun e => d1 _ _ _ _ _ _ _ _ ea eb e) (fun e => d2 _ _ _ _ _ _ _ _ ea ec e) (fun e => d3 _ _ _ _ _ _ _ _ eb ec e)
    rw [← ea, ← eb, ← ec] at hx
    simp (disch := first | (simp only [go_sem, gb0, eq_self]; done) | omega | (simp only [gl1, gl2]; omega)) only [go_sem, ↓reduceIte, Nat.reduceEqDiff, Nat.reduceAdd, Nat.reduceMul, Nat.reduceSub, Int.reduceToNat, Nat.reduceBEq, s4, s7, b1, b3, hs3]
    refine ⟨ownCh R P C, ⟨R, P, C, hg, rfl⟩, ?_⟩
    simp (disch := first | (simp only [go_sem, gb0, eq_self]; done) | omega | (simp only [gl1, gl2]; omega)) only [go_sem, ↓reduceIte, Nat.reduceEqDiff, Nat.reduceAdd, Nat.reduceMul, Nat.reduceSub, Int.reduceToNat, Nat.reduceBEq, s4, s7, b1, b3, hs3]
    exact hx)

/-- When the copy itself is small and true, it is handed over. -/
theorem f15_A (nx : List (List Int)) (pay cost : List Int) (hk : okN nx pay cost) (m : Nat) (hm : 1 ≤ m ∧ m ≤ 5) (c1 : chB (nxM nx) (listM pay) (listM cost) = true ∧ (nxM nx).length ≤ m) : Con Try.prog cfgA 15 [chA nx pay cost, I m] (ownCh (nxM nx) (listM pay) (listM cost)) := by
  have ml : maxLen = 9223372036854775807 := by decide
  have hal : ∀ (g : Hp) nx pay cost, allocB g (some (chA nx pay cost)) = some (.ptr g.nx 0, g.alloc (.cells false false [LLI nx, LI pay, LI cost])) := fun g _ _ _ => allocB_agg _ rfl
  have hal2 : ∀ g : Hp, allocB g (some (.agg [.nil, .nil, .nil])) = some (.ptr g.nx 0, g.alloc (.cells false false [.nil, .nil, .nil])) := fun g => allocB_agg _ rfl
  have hse : ∀ (h : Hp) nx pay cost, sealA h (chA nx pay cost) = some (chA nx pay cost, h) := fun h _ _ _ => sealA_agg _ (by simp only [AV.pureL, pure_L, Bool.and_true])
  have h0 : 0 < nx.length := by
    have := (okC.of c1.1).n1
    have : (nxM nx).length ≤ nx.length := by simp [nxM]; omega
    omega
  have c17 := f17_A nx pay cost hk h0
  have hk2 := okN.copy nx pay cost
  have hx8 := nxM_len nx
  generalize nxM nx = nx2 at *
  generalize listM pay = pay2 at *
  generalize listM cost = cost2 at *
  have k17 := fun h h' K => ConW_any (h := h) (h' := h') (K := K) c17 rfl (ownCh_free _ _ (by have := (okC.of c1.1).n1; omega))
  have hi := fun h => importR_ownCh (h := h) nx2 pay2 cost2
  have k30 := fun h h' K => ConW_num (h := h) (h' := h') (K := K) (liftA (by decide) (liftX (by decide) (f30_con nx2 pay2 cost2 hk2))) rfl
  rw [c1.1] at k30
  have hst : ∀ (g : Hp) (id a b c : Nat), storeC g id 0 3 (some (.cells false false [.nil, .nil, .nil])) [.sl a 0 nx2.length 1, .sl b 0 pay2.length 1, .sl c 0 cost2.length 1] = some (.skp, g.put id (some (.cells false false [.sl a 0 nx2.length 1, .sl b 0 pay2.length 1, .sl c 0 cost2.length 1]))) := fun g id a b c => by simp [storeC, setL, AV.isCell]
  have c2 : (nx2.length : Int) ≤ m := by omega
  refine Con_intro Try.func15 rfl okA15 (Nat.le_of_ble_eq_true rfl) rfl ?_
  simp only [Try.f15, Option.getD_some, initSt2]
  simp (disch := first | (simp only [go_sem, gb0, eq_self]; done) | omega | (simp only [gl1, gl2]; omega)) only [go_sem, ↓reduceIte, Nat.reduceEqDiff, Nat.reduceAdd, Nat.reduceMul, Nat.reduceSub, Int.reduceToNat, Nat.reduceBEq, hal, hal2, hse, k17, hi, hst, ↓stopY 2 false]
  refine WPy_go (fun st h => st 1 = I m ∧ st 4 = .ptr 1 0 ∧ st 5 = .ptr 5 0 ∧ h.nx = 6 ∧ h.bl 1 = some (.cells false false [.nil, .nil, .nil]) ∧ h.bl 2 = some (.cells false true (nx2.flatMap (e1 LI))) ∧ h.bl 3 = some (.cells false true (pay2.flatMap (e1 I))) ∧ h.bl 4 = some (.cells false true (cost2.flatMap (e1 I))) ∧ h.bl 5 = some (.cells false false [.sl 2 0 nx2.length 1, .sl 3 0 pay2.length 1, .sl 4 0 cost2.length 1])) (by simp (disch := first | (simp only [go_sem, gb0, eq_self]; done) | omega | (simp only [gl1, gl2]; omega)) only [go_sem, ↓reduceIte, Nat.reduceEqDiff, Nat.reduceAdd, Nat.reduceMul, Nat.reduceSub, Int.reduceToNat, Nat.reduceBEq]) ?_
  rintro st h ⟨s1, s4, s5, hnx, b1, b2, b3, b4, b5⟩
  have hse3 := seal_own3 b2 b3 b4 (by decide) (by decide) (by decide)
  have hx := export_ownCh (h := h.put 1 (some (.cells false false [.sl 2 0 nx2.length 1, .sl 3 0 pay2.length 1, .sl 4 0 cost2.length 1]))) 25 (a := 2) (b := 3) (c := 4) (R := nx2) (P := pay2) (C := cost2) (by simpa [Hp.put] using b2) (by simpa [Hp.put] using b3) (by simpa [Hp.put] using b4) (by decide) (by decide) (by decide)
  simp (disch := first | (simp only [go_sem, gb0, eq_self]; done) | omega | (simp only [gl1, gl2]; omega)) only [go_sem, ↓reduceIte, Nat.reduceEqDiff, Nat.reduceAdd, Nat.reduceMul, Nat.reduceSub, Int.reduceToNat, Nat.reduceBEq, s1, s4, s5, b1, b5, hse3, k30, c2, hst, hx]
end Go.Proofs.Ytgamcclfdkpcgaa

set_option linter.unusedVariables false
set_option linter.unusedSimpArgs false
set_option maxRecDepth 10000
namespace Go.Proofs.Ytgamcclfdkpcgaa
open Go Go.Am

theorem Bst.congr {n : Nat} {w w' : Mat} {p c p' c' V : Nat → Int} {D : Int} (hw : ∀ i j, i < n → j < n → w' i j = w i j) (hp : ∀ i, i < n → p' i = p i) (hc : ∀ i, i < n → c' i = c i) (b : Bst n w p c V D) : Bst n w' p' c' V D := by
  have hs : ∀ i, i < n → sumN (fun j => w' i j * V j) n = sumN (fun j => w i j * V j) n := fun i hi => sumN_congr fun j hj => by rw [hw i j hi hj]
  have hs1 : ∀ i, i < n → sumN (w' i) n = sumN (w i) n := fun i hi => sumN_congr fun j hj => hw i j hi hj
  refine ⟨b.pos, fun i hi => ?_, ?_⟩
  · rw [hp i hi, hc i hi, hs i hi]; exact b.sup i hi
  · obtain ⟨r, hn, hv⟩ := b.rule
    refine ⟨r, fun S hS => hn S fun i hi h => ?_, hv.pos, fun i hi hr => by rw [hp i hi]; exact hv.stop i hi hr, fun i hi hr => by rw [hs i hi, hc i hi]; exact hv.go i hi hr⟩
    obtain ⟨a1, a2, a3⟩ := hS i hi h
    exact ⟨a1, by rw [← hs1 i hi]; exact a2, fun j hj hw0 => a3 j hj (by rw [hw i j hi hj]; exact hw0)⟩
end Go.Proofs.Ytgamcclfdkpcgaa

set_option linter.unusedVariables false
set_option linter.unusedSimpArgs false
set_option maxRecDepth 10000
namespace Go.Proofs.Ytgamcclfdkpcgaa
open Go Go.Am

variable {h h' : Hp} {K : AV → Hp → Prop}

/-- What 'tame' answers. -/
def Tame (args : List AV) (r : AV) : Prop := PureOk Try.prog 15 args r ∧ ∃ (a : AV) (m : Nat) (nx : List (List Int)) (pay cost : List Int), args = [a, I m] ∧ (chB nx pay cost = true ∧ nx.length ≤ m) ∧ r = ownCh nx pay cost
theorem tame_ex (nx : List (List Int)) (pay cost : List Int) (hk : okN nx pay cost) (m : Nat) (hm : 1 ≤ m ∧ m ≤ 5) : ∃ r, Tame [chA nx pay cost, I m] r := by
  cases c1 : (chB (nxM nx) (listM pay) (listM cost) && decide ((nxM nx).length ≤ m)) with
  | true =>
    rw [Bool.and_eq_true, decide_eq_true_eq] at c1
    obtain ⟨k, hc⟩ := f15_A nx pay cost hk m hm c1
    exact ⟨_, (sound hextA k).2.2.1 _ _ _ hc, _, m, _, _, _, rfl, c1, rfl⟩
  | false =>
    obtain ⟨nx', pay', cost', h, k, hc⟩ := f15_B nx pay cost hk m hm c1
    exact ⟨_, (sound hextB k).2.2.1 _ _ _ hc, _, m, _, _, _, rfl, h, rfl⟩
def offO : List Nat := [3, 4]
open Classical in
noncomputable def extO (f : FuncId) (args : List AV) : Option AV :=
  if f = 15 then (if h : ∃ r, Tame args r then some h.choose else none) else if offO.contains f = true then none else if h : ∃ r, Con Try.prog cfgA f args r then some h.choose else none
noncomputable def cfgO : Cfg := { cfgA with ext := extO, strict := fun a b => a == 4 && b == 8, wr := fun _ _ => [] }
theorem pureA : ∀ f args r, cfgA.ext f args = some r → cfgA.own f = false → r.isPure = true := fun f args r he ho => (hextA f args r he).2 ho
theorem hextO : ExtOk Try.prog cfgO := by
  intro f args r he
  have he : extO f args = some r := he
  unfold extO at he
  split at he
  · split at he
    · rename_i h
      cases he
      exact ⟨by rename_i e; rw [e]; exact h.choose_spec.1, fun ho => by rename_i e; rw [e] at ho; cases ho⟩
    · cases he
  split at he
  · cases he
  · split at he
    · rename_i h
      cases he
      obtain ⟨k, hk⟩ := h.choose_spec
      exact ⟨(sound hextA k).2.2.1 _ _ _ hk, fun ho => callP_pure (P := Try.prog) (cfg := cfgA) pureA ho hk⟩
    · cases he
theorem liftO {f : FuncId} {args : List AV} {r : AV} (hb : (decide (f = 15) || offO.contains f) = false) (hc : Con Try.prog cfgA f args r) : Con Try.prog cfgO f args r := by
  simp only [Bool.or_eq_false_iff, decide_eq_false_iff_not] at hb
  refine ⟨1, ?_⟩
  have : extO f args = some r := by
    unfold extO
    have hex : ∃ r, Con Try.prog cfgA f args r := ⟨r, hc⟩
    rw [if_neg hb.1, if_neg (by rw [hb.2]; decide), dif_pos hex]
    obtain ⟨k, hk⟩ := hex.choose_spec
    obtain ⟨k', hk'⟩ := hc
    rw [callP_det hk hk']
  show (match extO f args with | some r => some r | none => _) = _
  rw [this]
theorem f15_O (nx0 : List (List Int)) (pay0 cost0 : List Int) (hk : okN nx0 pay0 cost0) (m : Nat) (hm : 1 ≤ m ∧ m ≤ 5) : ∃ nx pay cost, (chB nx pay cost = true ∧ nx.length ≤ m) ∧ Con Try.prog cfgO 15 [chA nx0 pay0 cost0, I m] (ownCh nx pay cost) := by
  have hex := tame_ex nx0 pay0 cost0 hk m hm
  obtain ⟨_, a, m', nx, pay, cost, he, hc, hr⟩ := hex.choose_spec
  have hm' : m = m' := by
    have := List.cons.inj (List.cons.inj he).2
    have h2 := this.1
    injection h2 with _ h3
    omega
  subst hm'
  refine ⟨nx, pay, cost, hc, 1, ?_⟩
  have : extO 15 [chA nx0 pay0 cost0, I m] = some (ownCh nx pay cost) := by
    unfold extO
    rw [if_pos rfl, dif_pos hex, hr]
  show (match extO 15 [chA nx0 pay0 cost0, I m] with | some r => some r | none => _) = _
  rw [this]
@[go_sem] theorem cfgO_strict (a b : Nat) : cfgO.strict a b = (a == 4 && b == 8) := rfl
@[go_sem] theorem cfgO_shr (f : Nat) : cfgO.shared f = cfg.shared f := rfl
@[go_sem] theorem cfgO_own (f : Nat) : cfgO.own f = (f == 28 || (f == 17 || f == 15)) := rfl
@[go_sem] theorem cfgO_kn3 : cfgO.keepNil 3 = false := rfl
@[go_sem] theorem cfgO_kn4 : cfgO.keepNil 4 = false := rfl
@[go_sem] theorem cfgO_wr (a b : Nat) : cfgO.wr a b = [] := rfl
theorem chB_okN {nx : List (List Int)} {pay cost : List Int} (c : chB nx pay cost = true) : okN nx pay cost := by
  have C := okC.of c
  have := C.n6; have := C.lp; have := C.lc
  have ml : maxLen = 9223372036854775807 := by decide
  exact ⟨by omega, fun r hr => by obtain ⟨i, hi, rfl⟩ := List.getElem_of_mem hr; have := C.row i hi; rw [nth_getElem hi] at this; omega, by omega, by omega⟩
theorem listM_id {l : List Int} (h : l.length ≤ 8) : listM l = l := by rw [listM, List.take_of_length_le]; omega
theorem nxM_id {nx : List (List Int)} (h : nx.length ≤ 8) (hr : ∀ i, i < nx.length → (nth nx i).length ≤ 8) : nxM nx = nx := by
  refine List.ext_getElem? fun i => ?_
  by_cases hi : i < nx.length
  · rw [nxM, List.getElem?_map, List.getElem?_range (by omega)]
    show some (listM (nth nx i)) = _
    rw [listM_id (hr i hi), nth_get hi]
  · rw [List.getElem?_eq_none (by simp [nxM]; omega), List.getElem?_eq_none (by omega)]
/-- A copy of a true chain. -/
theorem f17_O {nx : List (List Int)} {pay cost : List Int} (c : chB nx pay cost = true) : Con Try.prog cfgO 17 [chA nx pay cost] (ownCh nx pay cost) := by
  have C := okC.of c
  have n1 := C.n1; have n6 := C.n6; have lp := C.lp; have lc := C.lc
  have h := f17_A nx pay cost (chB_okN c) (by omega)
  rw [nxM_id (by omega) (fun i hi => by rw [C.row i hi]; omega), listM_id (by omega), listM_id (by omega)] at h
  exact liftO (by decide) h
end Go.Proofs.Ytgamcclfdkpcgaa

set_option linter.unusedVariables false
set_option linter.unusedSimpArgs false
set_option maxRecDepth 10000
namespace Go.Proofs.Ytgamcclfdkpcgaa
open Go Go.Am Go.RowKit

variable {h h' : Hp} {K : AV → Hp → Prop}

/-- The same answer, with its lists handed over. -/
def thaw : AV → AV
  | .lst a => .fresh 2 a.flatten
  | .tup [.lst a, .lst b, c] => .tup [.fresh 2 a.flatten, .fresh 1 b.flatten, c]
  | .tup [.lst a, c] => .tup [.own (.fresh 2 a.flatten), c]
  | v => v
/-- The configuration that knows a function's answer. -/
def ownC : List Nat := [54, 55, 56, 68, 69]
noncomputable def cfgT (f : FuncId) : Cfg := if ownC.contains f = true then cfg else cfgX
theorem hextT (f : FuncId) : ExtOk Try.prog (cfgT f) := by
  unfold cfgT
  split
  · exact hext0
  · exact hextX
theorem pureT (f : FuncId) : ∀ g args r, (cfgT f).ext g args = some r → (cfgT f).own g = false → r.isPure = true := fun g args r he ho => (hextT f g args r he).2 ho
theorem ownTT (f g : FuncId) : (cfgT f).own g = false := by
  unfold cfgT
  split <;> rfl
def ownT : List Nat := [55, 49, 29, 16]
open Classical in
noncomputable def extQ (f : FuncId) (args : List AV) : Option AV :=
  if f = 10 then none
  else if ownT.contains f = true then (if h : ∃ r, Con Try.prog (cfgT f) f args r ∧ PureOk Try.prog f args (thaw r) then some (thaw h.choose) else none)
  else if (f == 17 || f == 15) = true then (if h : ∃ r, Con Try.prog cfgO f args r then some h.choose else none)
  else if h : ∃ r, Con Try.prog (cfgT f) f args r then some h.choose else none
noncomputable def cfgQ : Cfg := { cfg with ext := extQ, own := fun f => ownT.contains f || (f == 17 || f == 15), keepNil := fun f => f == 29 || (f == 17 || f == 15) }
theorem hextQ : ExtOk Try.prog cfgQ := by
  intro f args r he
  have he : extQ f args = some r := he
  unfold extQ at he
  split at he
  · cases he
  split at he
  · rename_i ho
    split at he
    · rename_i h
      cases he
      exact ⟨h.choose_spec.2, fun h2 => by
        have : (ownT.contains f || (f == 17 || f == 15)) = false := h2
        rw [ho] at this; cases this⟩
    · cases he
  split at he
  · rename_i ho
    split at he
    · rename_i h
      cases he
      obtain ⟨k, hk⟩ := h.choose_spec
      exact ⟨(sound hextO k).2.2.1 _ _ _ hk, fun h2 => by
        have : (ownT.contains f || (f == 17 || f == 15)) = false := h2
        rw [ho, Bool.or_true] at this; cases this⟩
    · cases he
  · split at he
    · rename_i h
      cases he
      obtain ⟨k, hk⟩ := h.choose_spec
      exact ⟨(sound (hextT f) k).2.2.1 _ _ _ hk, fun ho => callP_pure (P := Try.prog) (cfg := cfgT f) (pureT f) (ownTT f f) hk⟩
    · cases he
theorem toQT {f : FuncId} {args : List AV} {r : AV} (hb : ((decide (f = 10) || ownT.contains f) || (f == 17 || f == 15)) = false) (hc : Con Try.prog (cfgT f) f args r) : Con Try.prog cfgQ f args r := by
  simp only [Bool.or_eq_false_iff, decide_eq_false_iff_not] at hb
  refine ⟨1, ?_⟩
  have : extQ f args = some r := by
    unfold extQ
    have hex : ∃ r, Con Try.prog (cfgT f) f args r := ⟨r, hc⟩
    rw [if_neg hb.1.1, if_neg (by rw [hb.1.2]; decide), if_neg (by rw [hb.2.1, hb.2.2]; decide), dif_pos hex]
    obtain ⟨k, hk⟩ := hex.choose_spec
    obtain ⟨k', hk'⟩ := hc
    rw [callP_det hk hk']
  show (match extQ f args with | some r => some r | none => _) = _
  rw [this]
theorem toQ {f : FuncId} {args : List AV} {r : AV} (hb : (((decide (f = 10) || ownT.contains f) || (f == 17 || f == 15)) || ownC.contains f) = false) (hc : Con Try.prog cfgX f args r) : Con Try.prog cfgQ f args r := by
  rw [Bool.or_eq_false_iff] at hb
  refine toQT hb.1 ?_
  rw [cfgT, if_neg (by rw [hb.2]; decide)]; exact hc
theorem toQc {f : FuncId} {args : List AV} {r : AV} (hb : (((decide (f = 10) || ownT.contains f) || (f == 17 || f == 15)) || !ownC.contains f) = false) (hc : Con Try.prog cfg f args r) : Con Try.prog cfgQ f args r := by
  rw [Bool.or_eq_false_iff, Bool.not_eq_false'] at hb
  refine toQT hb.1 ?_
  rw [cfgT, if_pos hb.2]; exact hc
theorem oToQ {f : FuncId} {args : List AV} {r : AV} (hb : ((decide (f = 10) || ownT.contains f) || !(f == 17 || f == 15)) = false) (hc : Con Try.prog cfgO f args r) : Con Try.prog cfgQ f args r := by
  simp only [Bool.or_eq_false_iff, decide_eq_false_iff_not] at hb
  refine ⟨1, ?_⟩
  have : extQ f args = some r := by
    unfold extQ
    have hex : ∃ r, Con Try.prog cfgO f args r := ⟨r, hc⟩
    rw [if_neg hb.1.1, if_neg (by rw [hb.1.2]; decide), if_pos (by have h2 := hb.2; cases hq : (f == 17 || f == 15) <;> simp_all), dif_pos hex]
    obtain ⟨k, hk⟩ := hex.choose_spec
    obtain ⟨k', hk'⟩ := hc
    rw [callP_det hk hk']
  show (match extQ f args with | some r => some r | none => _) = _
  rw [this]
/-- What is handed over. -/
theorem thawQ {f : FuncId} {args : List AV} {r : AV} (hb : (decide (f = 10) || !ownT.contains f) = false) (hc : Con Try.prog (cfgT f) f args r) (hp : PureOk Try.prog f args (thaw r)) : Con Try.prog cfgQ f args (thaw r) := by
  simp only [Bool.or_eq_false_iff, decide_eq_false_iff_not, Bool.not_eq_false'] at hb
  refine ⟨1, ?_⟩
  have : extQ f args = some (thaw r) := by
    unfold extQ
    have hex : ∃ r, Con Try.prog (cfgT f) f args r ∧ PureOk Try.prog f args (thaw r) := ⟨r, hc, hp⟩
    rw [if_neg hb.1, if_pos hb.2, dif_pos hex]
    obtain ⟨k, hk⟩ := hex.choose_spec.1
    obtain ⟨k', hk'⟩ := hc
    rw [callP_det hk hk']
  show (match extQ f args with | some r => some r | none => _) = _
  rw [this]
theorem thaw_LP (l : List (Int × Int)) : thaw (LP l) = .fresh 2 (l.flatMap eP) := by
  show AV.fresh 2 ((l.map eP).flatten) = _
  rw [List.flatMap]
theorem thaw_two (l : List (Int × Int)) (c : Int) : thaw (.tup [LP l, I c]) = .tup [.own (.fresh 2 (l.flatMap eP)), I c] := by
  show AV.tup [.own (.fresh 2 ((l.map eP).flatten)), I c] = _
  rw [List.flatMap]
theorem thaw_three (l : List (Int × Int)) (s : List Int) (c : Int) : thaw (.tup [LP l, LI s, I c]) = .tup [.fresh 2 (l.flatMap eP), .fresh 1 (s.flatMap (e1 I)), I c] := by
  show AV.tup [.fresh 2 ((l.map eP).flatten), .fresh 1 ((s.map (e1 I)).flatten), I c] = _
  rw [List.flatMap, List.flatMap]
@[go_sem] theorem kQ21 : ConW Try.prog cfgQ 21 h (some ([], h')) K = K (.bool true) h := ConW_num (toQ (by decide) awakeX) rfl
@[go_sem] theorem cfgQ_strict (a b : Nat) : cfgQ.strict a b = cfg.strict a b := rfl
@[go_sem] theorem cfgQ_shr (f : Nat) : cfgQ.shared f = cfg.shared f := rfl
@[go_sem] theorem cfgQ_wr (a b : Nat) : cfgQ.wr a b = cfg.wr a b := rfl
@[go_sem] theorem ownQ10 : cfgQ.own 10 = false := rfl
@[go_sem] theorem ownQ16 : cfgQ.own 16 = true := rfl
@[go_sem] theorem ownQ29 : cfgQ.own 29 = true := rfl
@[go_sem] theorem ownQ49 : cfgQ.own 49 = true := rfl
@[go_sem] theorem ownQ55 : cfgQ.own 55 = true := rfl
@[go_sem] theorem ownQ15 : cfgQ.own 15 = true := rfl
@[go_sem] theorem ownQ17 : cfgQ.own 17 = true := rfl
@[go_sem] theorem cfgQ_kn10 : cfgQ.keepNil 10 = false := rfl
theorem okQ10 : funcOk cfgQ Try.f10 (Try.f10.body.getD .skip) = true := by kernel_rfl
theorem okQ16 : funcOk cfgQ Try.f16 (Try.f16.body.getD .skip) = true := by kernel_rfl
theorem okQ29 : funcOk cfgQ Try.f29 (Try.f29.body.getD .skip) = true := by kernel_rfl
theorem hlateQ : ∀ id n, cfgQ.late id n = [] := fun _ _ => rfl
/-- The values of a sound rule, handed over. -/
theorem f55_Q {nx : List (List Int)} {pay cost : List Int} (C : okC nx pay cost) (x : Nat) (hs : sndP nx.length (wF nx) (ruleB x)) : Con Try.prog cfgQ 55 [eqR nx pay cost x, I nx.length] (.fresh 2 ((valL nx pay cost x).flatMap eP)) := by
  rw [← thaw_LP]
  exact thawQ (by decide) (by rw [cfgT, if_pos (by decide)]; exact f55_con C x hs) (by rw [thaw_LP]; exact f55_own C x hs)
theorem k55Q {nx : List (List Int)} {pay cost : List Int} (C : okC nx pay cost) (x : Nat) (hs : sndP nx.length (wF nx) (ruleB x)) : ConW Try.prog cfgQ 55 h (some ([eqR nx pay cost x, I nx.length], h')) K = K (.sl h'.nx 0 (valL nx pay cost x).length 2) (h'.alloc (.cells false true ((valL nx pay cost x).flatMap eP))) := by
  rw [ConW_any (f55_Q C x hs) rfl, importR_fresh]
  have : ((valL nx pay cost x).flatMap eP).length / 2 = (valL nx pay cost x).length := by rw [flatMap_len (f := eP) (sz := 2)]; omega
  rw [this]
end Go.Proofs.Ytgamcclfdkpcgaa
