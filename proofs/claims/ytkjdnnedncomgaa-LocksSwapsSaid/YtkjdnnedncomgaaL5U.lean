/-
  LocksSwaps, walked.
-/
import Derived.Test.YtkjdnnedncomgaaL5P
import Derived.Test.YtkjdnnedncomgaaL5W
set_option linter.unusedVariables false
set_option linter.unusedSimpArgs false
set_option maxRecDepth 10000
namespace Go.Proofs.Ytkjdnnedncomgaa
open Go Go.Am

variable {h h' : Hp} {K : AV → Hp → Prop}

theorem s14 {a cuts : List (List Int)} {d : Int} (f : Fit a cuts d) (hpl : isPlanB a = true) (hcp : areCutsB cuts a.length d = true) (j : Nat) (hj : j < (nth a 0).length) :
    ConW Try.prog cfg 14 h (some ([LLI a, LLI cuts, I d, I j], h')) K = K (.tup [I (strangersB a cuts d j), I 0]) h := by
  have := f14_con a cuts f.okA f.okC d j
  have hs : strOk a cuts d j = true := by
    have e : decide ((0 : Int) ≤ j ∧ (j : Int) ≤ (nth a 0).length - 1) = true := decide_eq_true (by omega)
    simp only [strOk, hpl, hcp, e, Bool.and_self]
  rw [hs] at this
  exact ConW_num this rfl
theorem s26 {a p : List (List Int)} {d : Int} (f : Fit a p d) (hf : fitB a p d = true) : ConW Try.prog cfg 26 h (some ([LLI a, LLI p, I d], h')) K = K (.tup [LP (wrongL a p a.length), I 0]) h' := by
  rw [k26 a p f.okA f.okC d]; simp only [wrongM, hf, if_true]
theorem s25 {a p : List (List Int)} {d : Int} (f : Fit a p d) (hf : fitB a p d = true) : ConW Try.prog cfg 25 h (some ([LLI a, LLI p, I d], h')) K = K (I (if (wrongL a p a.length).length = 0 then 0 else 10)) h := by
  rw [k25 a p f.okA f.okC d]; simp only [checkM, hf, if_true]
/-- Made cuts are cuts. -/
theorem tamedM_cuts (a : List (List Int)) {k d : Int} (hk : 1 ≤ k) (hd : 1 ≤ d ∧ d ≤ 4) : areCutsB (tamedM a k d) k d = true := by
  have hC := tamedC_bounds a
  have hlen : (tamedM a k d).length = k.toNat := by simp [tamedM]
  have hrow : ∀ r, r < k.toNat → nth (tamedM a k d) r = tamedRow a d r (tamedC a).toNat := fun r hr => nth_map_range _ _ _ hr
  have hrl : ∀ r, (tamedRow a d r (tamedC a).toNat).length = (tamedC a).toNat := fun r => fillR_len _ _ _ _
  simp only [areCutsB, Bool.and_eq_true, decide_eq_true_eq]
  refine ⟨⟨⟨hd, by omega⟩, by rw [hrow 0 (by omega), hrl]; omega⟩, all_of_nth fun r hr => ?_⟩
  rw [hlen] at hr
  rw [hrow r hr, hrow 0 (by omega), hrl, hrl]
  simp only [decide_true, Bool.true_and]
  refine all_of_nth fun j hj => ?_
  rw [hrl] at hj
  rw [tamedRow, fillR_nth hj, if_pos hj]
  simp only [decide_eq_true_eq]
  split
  · have := modI_bounds (at2 a r j - 1) (n := d) (by omega); omega
  · omega

set_option maxHeartbeats 4000000 in
theorem f7_con (acc cuts : List (List Int)) (o0 o1 o2 o3 o4 : Int) (ha : okM acc) (hcu : okM cuts) (h0 : ok64 o0) (h1 : ok64 o1) (h2 : ok64 o2) (h3 : ok64 o3) (h4 : ok64 o4) :
    Con Try.prog cfg 7 [LLI acc, LLI cuts, .agg [I o0, I o1, I o2, I o3, I o4]] (.bool true) := by
  have hdb := modI_bounds o0 (n := 4) (by omega)
  generalize hd : 1 + modI o0 4 = d
  have hd4 : 1 ≤ d ∧ d ≤ 4 := by omega
  have hpl := tameM_plan acc (most := 6) (by omega)
  generalize hA : tameM acc 6 = a at hpl
  have hpl' := hpl
  simp only [isPlanB, Bool.and_eq_true, decide_eq_true_eq] at hpl'
  obtain ⟨⟨p1, p2⟩, _⟩ := hpl'
  have hcp := tamedM_cuts cuts (k := a.length) (d := d) (by omega) hd4
  generalize hR : tamedM cuts a.length d = p at hcp
  have f : Fit a p d := Fit.of hpl hcp
  have hfp : fitB a p d = true := by simp only [fitB, hpl, hcp, Bool.and_self]
  have hs := f.same
  have hch := f.cham
  generalize hC : (nth p 0).length = c at hch
  have hxb := modI_bounds o1 (n := d) (by omega)
  generalize hx : 1 + modI o1 d = x
  have hyb := modI_bounds o2 (n := d) (by omega)
  generalize hy : 1 + modI o2 d = y
  have hub := modI_bounds o3 (n := (c : Int)) (by omega)
  obtain ⟨u, hu⟩ : ∃ u : Nat, modI o3 c = (u : Int) := ⟨(modI o3 c).toNat, by omega⟩
  have hvb := modI_bounds o4 (n := (c : Int)) (by omega)
  obtain ⟨v, hv⟩ : ∃ v : Nat, modI o4 c = (v : Int) := ⟨(modI o4 c).toNat, by omega⟩
  have hx2 : 1 ≤ x ∧ x ≤ d := by omega
  have hy2 : 1 ≤ y ∧ y ≤ d := by omega
  have hul : u < (nth p 0).length := by omega
  have hvl : v < (nth p 0).length := by omega
  have fq := swFit f hul hvl hx2 hy2
  have hwr := swWrong f hul hvl hx2 hy2
  have hst := swStrangers f hul hvl hx2 hy2
  have hqlen := swAll_len u v x y p
  have hfq : fitB a (swAll u v x y p) d = true := by
    simp only [fitB, hpl, Bool.true_and]
    have h0 : (nth (swAll u v x y p) 0).length = c := by rw [swAll_nth (by omega), swRow_len]; exact hC
    simp only [areCutsB, Bool.and_eq_true, decide_eq_true_eq]
    refine ⟨⟨⟨hd4, by omega⟩, by omega⟩, all_of_nth fun r hr => ?_⟩
    rw [decide_eq_true (by rw [fq.crow r (by omega)]), Bool.true_and]
    refine all_of_nth fun j hj => ?_
    have := fq.cut r j (by omega) (by rw [fq.crow r (by omega)] at hj; exact hj)
    simpa only [decide_eq_true_eq] using this
  have hcq : areCutsB (swAll u v x y p) a.length d = true := by rw [fitB, Bool.and_eq_true] at hfq; exact hfq.2
  have mk1 := fun h h' K => k11 (h := h) (h' := h') (K := K) acc ha 6 (by omega)
  have mk2 := fun h h' K => m12 (h := h) (h' := h') (K := K) o0 4 h0 (by omega) (by omega)
  have mk3 := fun h h' K => k13 (h := h) (h' := h') (K := K) cuts hcu a.length d (by omega) (by omega)
  have mk4 := fun h h' K => m12 (h := h) (h' := h') (K := K) o1 d h1 (by omega) (by omega)
  have mk5 := fun h h' K => m12 (h := h) (h' := h') (K := K) o2 d h2 (by omega) (by omega)
  have mk6 := fun h h' K => m12 (h := h) (h' := h') (K := K) o3 c h3 (by omega) (by omega)
  have mk7 := fun h h' K => m12 (h := h) (h' := h') (K := K) o4 c h4 (by omega) (by omega)
  have hflr := flat_get LI p 0 (by omega)
  refine Con_intro Try.func7 rfl ok7 (Nat.le_of_ble_eq_true rfl) rfl ?_
  simp only [Try.f7, Option.getD_some, initSt3]
  simp (disch := first | (simp only [go_sem, Bool.and_self, eq_self]; done) | omega) only [go_sem, ↓reduceIte, Nat.reduceEqDiff, Nat.reduceAdd, Nat.reduceMul, Nat.reduceSub, Int.reduceToNat, mk1, hA, mk2, hd, mk3, hR, hflr, hC, mk4, mk5, mk6, mk7, hx, hy, hu, hv]
  refine WP_cut (fun st h => st 7 = LLI a ∧ st 8 = I d ∧ st 9 = .sl 1 0 p.length 1 ∧ (∃ id, st 15 = .sl id 0 p.length 1 ∧ 2 ≤ id ∧ h.bl id = some (.cells false true ((swAll u v x y p).flatMap (e1 LI)))) ∧ h.bl 1 = some (.cells false true (p.flatMap (e1 LI)))) ?_ ?_
  · refine WP_for 16 p.length (fun i st h => st 7 = LLI a ∧ st 8 = I d ∧ st 9 = .sl 1 0 p.length 1 ∧ st 11 = I x ∧ st 12 = I y ∧ st 13 = I u ∧ st 14 = I v ∧ 2 ≤ h.nx ∧ h.bl 1 = some (.cells false true (p.flatMap (e1 LI))) ∧ ∃ w, st 15 = w ∧ (∀ id off n sz, w = .sl id off n sz → 2 ≤ id) ∧ Own (e1 LI) 1 h w ((List.range i).map fun i => swRow u v x y (nth p i)))
      (by simp (disch := first | (simp only [go_sem, Bool.and_self, eq_self]; done) | omega) only [go_sem, ↓reduceIte, Nat.reduceEqDiff, Nat.reduceAdd, Nat.reduceMul, Nat.reduceSub, Int.reduceToNat]) ⟨by simp (disch := first | (simp only [go_sem, Bool.and_self, eq_self]; done) | omega) only [go_sem, ↓reduceIte, Nat.reduceEqDiff, Nat.reduceAdd, Nat.reduceMul, Nat.reduceSub, Int.reduceToNat], by simp (disch := first | (simp only [go_sem, Bool.and_self, eq_self]; done) | omega) only [go_sem, ↓reduceIte, Nat.reduceEqDiff, Nat.reduceAdd, Nat.reduceMul, Nat.reduceSub, Int.reduceToNat], by simp (disch := first | (simp only [go_sem, Bool.and_self, eq_self]; done) | omega) only [go_sem, ↓reduceIte, Nat.reduceEqDiff, Nat.reduceAdd, Nat.reduceMul, Nat.reduceSub, Int.reduceToNat], by simp (disch := first | (simp only [go_sem, Bool.and_self, eq_self]; done) | omega) only [go_sem, ↓reduceIte, Nat.reduceEqDiff, Nat.reduceAdd, Nat.reduceMul, Nat.reduceSub, Int.reduceToNat], by simp (disch := first | (simp only [go_sem, Bool.and_self, eq_self]; done) | omega) only [go_sem, ↓reduceIte, Nat.reduceEqDiff, Nat.reduceAdd, Nat.reduceMul, Nat.reduceSub, Int.reduceToNat], by simp (disch := first | (simp only [go_sem, Bool.and_self, eq_self]; done) | omega) only [go_sem, ↓reduceIte, Nat.reduceEqDiff, Nat.reduceAdd, Nat.reduceMul, Nat.reduceSub, Int.reduceToNat], by simp (disch := first | (simp only [go_sem, Bool.and_self, eq_self]; done) | omega) only [go_sem, ↓reduceIte, Nat.reduceEqDiff, Nat.reduceAdd, Nat.reduceMul, Nat.reduceSub, Int.reduceToNat], by simp (disch := first | (simp only [go_sem, Bool.and_self, eq_self]; done) | omega) only [go_sem, ↓reduceIte, Nat.reduceEqDiff, Nat.reduceAdd, Nat.reduceMul, Nat.reduceSub, Int.reduceToNat, Nat.le_refl], by simp (disch := first | (simp only [go_sem, Bool.and_self, eq_self]; done) | omega) only [go_sem, ↓reduceIte, Nat.reduceEqDiff, Nat.reduceAdd, Nat.reduceMul, Nat.reduceSub, Int.reduceToNat], .nil, by simp (disch := first | (simp only [go_sem, Bool.and_self, eq_self]; done) | omega) only [go_sem, ↓reduceIte, Nat.reduceEqDiff, Nat.reduceAdd, Nat.reduceMul, Nat.reduceSub, Int.reduceToNat], (fun _ _ _ _ h => by cases h), .inl ⟨rfl, rfl⟩⟩ ?_
    rintro i st h hi s16 ⟨s7, s8, s9, s11, s12, s13, s14, hnx, hb1, w, s15, hw, how⟩
    by_cases hlt : i < p.length
    case neg =>
      have hie : i = p.length := by omega
      subst hie
      simp (disch := first | (simp only [go_sem, Bool.and_self, eq_self]; done) | omega) only [go_sem, ↓reduceIte, Nat.reduceEqDiff, Nat.reduceAdd, Nat.reduceMul, Nat.reduceSub, Int.reduceToNat, s16, s7, s8, s9, s11, s12, s13, s14, s15, hlt, hb1]
      rcases how with ⟨_, e⟩ | ⟨id, e1, e2, e3⟩
      · have := congrArg List.length e
        simp at this
        have : p.length = 0 := by rw [this]; rfl
        omega
      · refine ⟨id, ?_, hw _ _ _ _ e1, e3⟩
        rw [e1]; simp
    have hcr : (nth p i).length = c := by rw [f.crow i (by omega)]; exact hC
    have hflg := flat_get LI p i hlt
    have happ1 := fun h : Hp => app_nil (P := Try.prog) (h := h) (f := e1 I) 3 8 (I 0) (LI (nth p i)) (nth p i) isz3 ibytes3 izero3 rfl (cellsOf_L _ _) (lenA_L _ _) (by omega) (by omega)
    have hgu := flat_get I (nth p i) u (by omega)
    simp (disch := first | (simp only [go_sem, Bool.and_self, eq_self]; done) | omega) only [go_sem, ↓reduceIte, Nat.reduceEqDiff, Nat.reduceAdd, Nat.reduceMul, Nat.reduceSub, Int.reduceToNat, s16, s7, s8, s9, s11, s12, s13, s14, s15, hlt, hb1, hflg, happ1, hcr, hgu]
    have h1n : ¬ 1 = h.nx := by omega
    refine condW_join (fun st g => st 7 = LLI a ∧ st 8 = I d ∧ st 9 = .sl 1 0 p.length 1 ∧ st 11 = I x ∧ st 12 = I y ∧ st 13 = I u ∧ st 14 = I v ∧ st 16 = I i ∧ st 15 = w ∧ st 17 = .sl h.nx 0 c 1 ∧ g.nx = h.nx + 1 ∧ (∀ id, id < h.nx → g.bl id = h.bl id) ∧ g.bl h.nx = some (.cells false true ((sw1 u x y (nth p i)).flatMap (e1 I)))) (fun he => ?_) (fun he => ?_) ?_
    · have hset : (nth p i).set u y = sw1 u x y (nth p i) := by rw [sw1, if_pos he]
      simp (disch := first | (simp only [go_sem, Bool.and_self, eq_self]; done) | omega) only [go_sem, ↓reduceIte, Nat.reduceEqDiff, Nat.reduceAdd, Nat.reduceMul, Nat.reduceSub, Int.reduceToNat, s7, s8, s9, s11, s12, s13, s14, s16, s15, hset]
      intro id hid
      simp (disch := first | (simp only [go_sem, Bool.and_self, eq_self]; done) | omega) only [go_sem, ↓reduceIte, Nat.reduceEqDiff, Nat.reduceAdd, Nat.reduceMul, Nat.reduceSub, Int.reduceToNat, Nat.ne_of_lt hid]
    · simp (disch := first | (simp only [go_sem, Bool.and_self, eq_self]; done) | omega) only [go_sem, ↓reduceIte, Nat.reduceEqDiff, Nat.reduceAdd, Nat.reduceMul, Nat.reduceSub, Int.reduceToNat, s7, s8, s9, s11, s12, s13, s14, s16, s15, hgu]
      refine condW_dec (fun he2 => ?_) (fun he2 => ?_)
      · have hset : (nth p i).set u x = sw1 u x y (nth p i) := by rw [sw1, if_neg he, if_pos he2]
        simp (disch := first | (simp only [go_sem, Bool.and_self, eq_self]; done) | omega) only [go_sem, ↓reduceIte, Nat.reduceEqDiff, Nat.reduceAdd, Nat.reduceMul, Nat.reduceSub, Int.reduceToNat, s7, s8, s9, s11, s12, s13, s14, s16, s15, hset]
        intro id hid
        simp (disch := first | (simp only [go_sem, Bool.and_self, eq_self]; done) | omega) only [go_sem, ↓reduceIte, Nat.reduceEqDiff, Nat.reduceAdd, Nat.reduceMul, Nat.reduceSub, Int.reduceToNat, Nat.ne_of_lt hid]
      · have hset : nth p i = sw1 u x y (nth p i) := by rw [sw1, if_neg he, if_neg he2]
        simp (disch := first | (simp only [go_sem, Bool.and_self, eq_self]; done) | omega) only [go_sem, ↓reduceIte, Nat.reduceEqDiff, Nat.reduceAdd, Nat.reduceMul, Nat.reduceSub, Int.reduceToNat, s7, s8, s9, s11, s12, s13, s14, s16, s15]
        refine ⟨?_, by rw [← hset]⟩
        intro id hid
        simp (disch := first | (simp only [go_sem, Bool.and_self, eq_self]; done) | omega) only [go_sem, ↓reduceIte, Nat.reduceEqDiff, Nat.reduceAdd, Nat.reduceMul, Nat.reduceSub, Int.reduceToNat, Nat.ne_of_lt hid]
    rintro st g ⟨s7, s8, s9, s11, s12, s13, s14, s16, s15, s17, gnx, gfr, gbl⟩
    have hsl := sw1_len u x y (nth p i)
    have hrl := swRow_len u v x y (nth p i)
    have hg1 := flat_get I (sw1 u x y (nth p i)) u (by omega)
    have hg2 := flat_get I (sw1 u x y (nth p i)) v (by omega)
    have hrow : ((sw1 u x y (nth p i)).set u (nth (sw1 u x y (nth p i)) v)).set v (nth (sw1 u x y (nth p i)) u) = swRow u v x y (nth p i) := rfl
    generalize hr1 : sw1 u x y (nth p i) = r1 at *
    have hl2 : (r1.set u (nth r1 v)).length = c := by rw [List.length_set]; omega
    have hl1 : r1.length = c := by omega
    generalize hG : ((g.put h.nx (some (.cells false true ((r1.set u (nth r1 v)).flatMap (e1 I))))).put h.nx (some (.cells false true ((swRow u v x y (nth p i)).flatMap (e1 I))))) = G
    have hG1 : G.bl h.nx = some (.cells false true ((swRow u v x y (nth p i)).flatMap (e1 I))) := by rw [← hG]; simp (disch := first | (simp only [go_sem, Bool.and_self, eq_self]; done) | omega) only [go_sem, ↓reduceIte, Nat.reduceEqDiff, Nat.reduceAdd, Nat.reduceMul, Nat.reduceSub, Int.reduceToNat]
    have hG2 : ∀ id, id < h.nx → G.bl id = h.bl id := by intro id hid; rw [← hG]; simp (disch := first | (simp only [go_sem, Bool.and_self, eq_self]; done) | omega) only [go_sem, ↓reduceIte, Nat.reduceEqDiff, Nat.reduceAdd, Nat.reduceMul, Nat.reduceSub, Int.reduceToNat, Nat.ne_of_lt hid, gfr id hid]
    have hG3 : G.nx = h.nx + 1 := by rw [← hG]; simp (disch := first | (simp only [go_sem, Bool.and_self, eq_self]; done) | omega) only [go_sem, ↓reduceIte, Nat.reduceEqDiff, Nat.reduceAdd, Nat.reduceMul, Nat.reduceSub, Int.reduceToNat, gnx]
    have hse : sealA G (.sl h.nx 0 c 1) = some (LI (swRow u v x y (nth p i)), G.put h.nx (some (.cells true true ((swRow u v x y (nth p i)).flatMap (e1 I))))) := by
      simp (disch := first | (simp only [go_sem, Bool.and_self, eq_self]; done) | omega) only [go_sem, ↓reduceIte, Nat.reduceEqDiff, Nat.reduceAdd, Nat.reduceMul, Nat.reduceSub, Int.reduceToNat, hG1, hrl, hcr]
    have hbs := bsB_one (P := Try.prog) 27 _ (LI (swRow u v x y (nth p i))) .nil _ isz27 izero27 rfl rfl rfl hse rfl rfl (pure_L _)
    have how2 : Own (e1 LI) 1 (G.put h.nx (some (.cells true true ((swRow u v x y (nth p i)).flatMap (e1 I))))) w ((List.range i).map fun i => swRow u v x y (nth p i)) :=
      how.mono (by rw [put_nx]; omega) fun id hid => by rw [put_bl, if_neg (by omega)]; exact hG2 id hid
    have happ := app_one (P := Try.prog) how2 27 24 .nil (swRow u v x y (nth p i)) isz27 ibytes27 izero27 rfl (by simp; omega) (by simp; omega)
    simp (disch := first | (simp only [go_sem, Bool.and_self, eq_self]; done) | omega) only [go_sem, ↓reduceIte, Nat.reduceEqDiff, Nat.reduceAdd, Nat.reduceMul, Nat.reduceSub, Int.reduceToNat, s7, s8, s9, s11, s12, s13, s14, s16, s15, s17, gbl, hg1, hg2, hl1, hl2, hrow, hG, hbs, happ]
    rw [ForK_normal]
    refine ⟨hlt, by simp (disch := first | (simp only [go_sem, Bool.and_self, eq_self]; done) | omega) only [go_sem, ↓reduceIte, Nat.reduceEqDiff, Nat.reduceAdd, Nat.reduceMul, Nat.reduceSub, Int.reduceToNat, s16], by simp (disch := first | (simp only [go_sem, Bool.and_self, eq_self]; done) | omega) only [go_sem, ↓reduceIte, Nat.reduceEqDiff, Nat.reduceAdd, Nat.reduceMul, Nat.reduceSub, Int.reduceToNat, s7], by simp (disch := first | (simp only [go_sem, Bool.and_self, eq_self]; done) | omega) only [go_sem, ↓reduceIte, Nat.reduceEqDiff, Nat.reduceAdd, Nat.reduceMul, Nat.reduceSub, Int.reduceToNat, s8], by simp (disch := first | (simp only [go_sem, Bool.and_self, eq_self]; done) | omega) only [go_sem, ↓reduceIte, Nat.reduceEqDiff, Nat.reduceAdd, Nat.reduceMul, Nat.reduceSub, Int.reduceToNat, s9], by simp (disch := first | (simp only [go_sem, Bool.and_self, eq_self]; done) | omega) only [go_sem, ↓reduceIte, Nat.reduceEqDiff, Nat.reduceAdd, Nat.reduceMul, Nat.reduceSub, Int.reduceToNat, s11], by simp (disch := first | (simp only [go_sem, Bool.and_self, eq_self]; done) | omega) only [go_sem, ↓reduceIte, Nat.reduceEqDiff, Nat.reduceAdd, Nat.reduceMul, Nat.reduceSub, Int.reduceToNat, s12], by simp (disch := first | (simp only [go_sem, Bool.and_self, eq_self]; done) | omega) only [go_sem, ↓reduceIte, Nat.reduceEqDiff, Nat.reduceAdd, Nat.reduceMul, Nat.reduceSub, Int.reduceToNat, s13], by simp (disch := first | (simp only [go_sem, Bool.and_self, eq_self]; done) | omega) only [go_sem, ↓reduceIte, Nat.reduceEqDiff, Nat.reduceAdd, Nat.reduceMul, Nat.reduceSub, Int.reduceToNat, s14], by rw [appH_nx, put_nx]; omega, ?_, _, by simp (disch := first | (simp only [go_sem, Bool.and_self, eq_self]; done) | omega) only [go_sem, ↓reduceIte, Nat.reduceEqDiff, Nat.reduceAdd, Nat.reduceMul, Nat.reduceSub, Int.reduceToNat]; rfl, ?_, ?_⟩
    · rw [appH_bl _ _ _ _ (by rw [put_nx]; omega) (fun id off n sz e => by have := hw _ _ _ _ e; omega), put_bl, if_neg (by omega), hG2 1 (by omega)]; exact hb1
    · intro id off n sz e
      unfold appV at e
      cases e
      rw [put_nx]; omega
    · rw [← rows_snoc fun i => swRow u v x y (nth p i)]
      exact Own.app _ _ _
  rintro st h ⟨s7, s8, s9, ⟨id, s15, hid, hbi⟩, hb1⟩
  have m1 := fun h h' K => s26 (h := h) (h' := h') (K := K) f hfp
  have m2 := fun h h' K => s26 (h := h) (h' := h') (K := K) fq hfq
  have m3 := fun h h' K => s25 (h := h) (h' := h') (K := K) f hfp
  have m4 := fun h h' K => s25 (h := h) (h' := h') (K := K) fq hfq
  have hwl := wrongL_len f (n := a.length) (Nat.le_refl _)
  have m5 := fun h h' K => k27 (h := h) (h' := h') (K := K) (wrongL a p a.length) (wrongL a p a.length) (by omega)
  have n1 : ¬ id = 1 := by omega
  have n2 : ¬ 1 = id := by omega
  rw [hwr] at m2 m4
  generalize wrongL a p a.length = wr at *
  generalize hcz : (if wr.length = 0 then (0 : Int) else 10) = cz at *
  simp (disch := first | (simp only [go_sem, Bool.and_self, eq_self]; done) | omega) only [go_sem, ↓reduceIte, Nat.reduceEqDiff, Nat.reduceAdd, Nat.reduceMul, Nat.reduceSub, Int.reduceToNat, s7, s8, s9, s15, hb1, hbi, n1, n2, m1, m2, m3, m4, m5, eq_self, hqlen]
  refine WP_for 24 (nth a 0).length (fun j st h => st 7 = LLI a ∧ st 8 = I d ∧ st 9 = .sl 1 0 p.length 1 ∧ st 15 = .sl id 0 p.length 1 ∧ (∃ fz, h.bl id = some (.cells fz true ((swAll u v x y p).flatMap (e1 LI)))) ∧ ∃ fz, h.bl 1 = some (.cells fz true (p.flatMap (e1 LI))))
    (by simp (disch := first | (simp only [go_sem, Bool.and_self, eq_self]; done) | omega) only [go_sem, ↓reduceIte, Nat.reduceEqDiff, Nat.reduceAdd, Nat.reduceMul, Nat.reduceSub, Int.reduceToNat]) ⟨by simp (disch := first | (simp only [go_sem, Bool.and_self, eq_self]; done) | omega) only [go_sem, ↓reduceIte, Nat.reduceEqDiff, Nat.reduceAdd, Nat.reduceMul, Nat.reduceSub, Int.reduceToNat, s7], by simp (disch := first | (simp only [go_sem, Bool.and_self, eq_self]; done) | omega) only [go_sem, ↓reduceIte, Nat.reduceEqDiff, Nat.reduceAdd, Nat.reduceMul, Nat.reduceSub, Int.reduceToNat, s8], by simp (disch := first | (simp only [go_sem, Bool.and_self, eq_self]; done) | omega) only [go_sem, ↓reduceIte, Nat.reduceEqDiff, Nat.reduceAdd, Nat.reduceMul, Nat.reduceSub, Int.reduceToNat, s9], by simp (disch := first | (simp only [go_sem, Bool.and_self, eq_self]; done) | omega) only [go_sem, ↓reduceIte, Nat.reduceEqDiff, Nat.reduceAdd, Nat.reduceMul, Nat.reduceSub, Int.reduceToNat, s15], ⟨true, by simp (disch := first | (simp only [go_sem, Bool.and_self, eq_self]; done) | omega) only [go_sem, ↓reduceIte, Nat.reduceEqDiff, Nat.reduceAdd, Nat.reduceMul, Nat.reduceSub, Int.reduceToNat, n1, n2]⟩, ⟨true, by simp (disch := first | (simp only [go_sem, Bool.and_self, eq_self]; done) | omega) only [go_sem, ↓reduceIte, Nat.reduceEqDiff, Nat.reduceAdd, Nat.reduceMul, Nat.reduceSub, Int.reduceToNat, n1, n2]⟩⟩ ?_
  rintro j st h hj s24 ⟨s7, s8, s9, s15, ⟨fz, hbi⟩, ⟨fz', hb1⟩⟩
  by_cases hlt : j < (nth a 0).length
  case neg => simp (disch := first | (simp only [go_sem, Bool.and_self, eq_self]; done) | omega) only [go_sem, ↓reduceIte, Nat.reduceEqDiff, Nat.reduceAdd, Nat.reduceMul, Nat.reduceSub, Int.reduceToNat, s7, s8, s9, s24, s15, hlt]
  have m6 := fun h h' K => s14 (h := h) (h' := h') (K := K) f hpl hcp j hlt
  have m7 := fun h h' K => s14 (h := h) (h' := h') (K := K) fq hpl hcq j hlt
  rw [hst] at m7
  simp (disch := first | (simp only [go_sem, Bool.and_self, eq_self]; done) | omega) only [go_sem, ↓reduceIte, Nat.reduceEqDiff, Nat.reduceAdd, Nat.reduceMul, Nat.reduceSub, Int.reduceToNat, s7, s8, s9, s24, s15, hlt, hbi, hb1, n1, n2, m6, m7, hqlen, eq_self]
  rw [ForK_normal]
  exact ⟨hlt, by simp (disch := first | (simp only [go_sem, Bool.and_self, eq_self]; done) | omega) only [go_sem, ↓reduceIte, Nat.reduceEqDiff, Nat.reduceAdd, Nat.reduceMul, Nat.reduceSub, Int.reduceToNat, s24], by simp (disch := first | (simp only [go_sem, Bool.and_self, eq_self]; done) | omega) only [go_sem, ↓reduceIte, Nat.reduceEqDiff, Nat.reduceAdd, Nat.reduceMul, Nat.reduceSub, Int.reduceToNat, s7], by simp (disch := first | (simp only [go_sem, Bool.and_self, eq_self]; done) | omega) only [go_sem, ↓reduceIte, Nat.reduceEqDiff, Nat.reduceAdd, Nat.reduceMul, Nat.reduceSub, Int.reduceToNat, s8], by simp (disch := first | (simp only [go_sem, Bool.and_self, eq_self]; done) | omega) only [go_sem, ↓reduceIte, Nat.reduceEqDiff, Nat.reduceAdd, Nat.reduceMul, Nat.reduceSub, Int.reduceToNat, s9], by simp (disch := first | (simp only [go_sem, Bool.and_self, eq_self]; done) | omega) only [go_sem, ↓reduceIte, Nat.reduceEqDiff, Nat.reduceAdd, Nat.reduceMul, Nat.reduceSub, Int.reduceToNat, s15], ⟨fz, hbi⟩, ⟨fz', hb1⟩⟩
end Go.Proofs.Ytkjdnnedncomgaa
