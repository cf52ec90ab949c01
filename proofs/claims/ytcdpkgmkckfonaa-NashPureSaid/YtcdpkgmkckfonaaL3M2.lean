/-
  DeleteFunc: the walk.
  Rest.
  The reference: Gain, Mix; the laws' copies.
  Pure; lists compared.
  The reference's Pure.
  cornerOf.
  cornerOf: the walk.
  fits.
  sets: what the closure hands to the body of a range over it.
  corners: words, and the closures that sets and corners return.
  corners: what the closure hands to the body of a range over it.
-/
import Derived.Test.YtcdpkgmkckfonaaL3M1
import Derived.Test.YtcdpkgmkckfonaaAmNest
set_option linter.unusedVariables false
set_option linter.unusedSimpArgs false
set_option maxRecDepth 10000
namespace Go.Proofs.Ytcdpkgmkckfonaa
open Go Go.Am

variable {h h' : Hp} {K : AV → Hp → Prop}

/-- A list of which the part behind i has moved up, as far as j. -/
def shL (L : List Int) (i j : Nat) : List Int := (List.range L.length).map fun k => if i ≤ k ∧ k < j then nth L (k + 1) else nth L k
theorem shL_len (L : List Int) (i j : Nat) : (shL L i j).length = L.length := by simp [shL]
theorem shL_nth {L : List Int} {i j k : Nat} (hk : k < L.length) : nth (shL L i j) k = if i ≤ k ∧ k < j then nth L (k + 1) else nth L k := nth_map_range _ _ _ hk
theorem shL_start (L : List Int) (i : Nat) : shL L i i = L := by
  refine list_ext_nth (shL_len _ _ _) fun k hk => ?_
  rw [shL_len] at hk
  rw [shL_nth hk, if_neg (by omega)]
theorem shL_set {L : List Int} {i j : Nat} (hi : i ≤ j) (hj : j + 1 < L.length) : (shL L i j).set j (nth L (j + 1)) = shL L i (j + 1) := by
  refine list_ext_nth (by simp [shL_len]) fun k hk => ?_
  rw [List.length_set, shL_len] at hk
  rw [nth_set _ _ _ _ (by rw [shL_len]; omega), shL_nth hk, shL_nth hk]
  by_cases e : j = k
  · subst e; rw [if_pos rfl, if_pos ⟨hi, by omega⟩]
  · rw [if_neg e]
    by_cases h2 : i ≤ k ∧ k < j
    · rw [if_pos h2, if_pos ⟨h2.1, by omega⟩]
    · rw [if_neg h2, if_neg (by omega)]
theorem nth_take {α : Type} [Inhabited α] {l : List α} {n k : Nat} (hk : k < n) : nth (l.take n) k = nth l k := by
  rw [nth, nth, List.getElem?_take, if_pos hk]
theorem cutAt_nth {R : List Nat} {i k : Nat} (hi : i < R.length) (hk : k + 1 < R.length) : nth (cutAt R i) k = if k < i then nth R k else nth R (k + 1) := by
  have hl : (R.take i).length = i := by rw [List.length_take]; omega
  rw [cutAt, nth]
  by_cases h : k < i
  · rw [if_pos h, List.getElem?_append_left (by omega), List.getElem?_take, if_pos h]; rfl
  · rw [if_neg h, List.getElem?_append_right (by omega), List.getElem?_drop, hl, show i + 1 + (k - i) = k + 1 by omega]; rfl
/-- What remains in front. -/
theorem shL_cut {L : List Int} {R : List Nat} {i n : Nat} (hn : n ≤ L.length) (hR : R.length = n) (hL : L.take n = iL R) (hi : i < n) (x : Int) : ((shL L i (n - 1)).set (n - 1) x).take (n - 1) = iL (cutAt R i) := by
  have hc := cutAt_len (R := R) (k := i) (by omega)
  refine list_ext_nth (by rw [List.length_take, List.length_set, shL_len, iL_len]; omega) fun k hk => ?_
  rw [List.length_take, List.length_set, shL_len] at hk
  have hk1 : k + 1 < n := by omega
  rw [nth_take (by omega), nth_set _ _ _ _ (by rw [shL_len]; omega), if_neg (by omega), shL_nth (by omega), iL_nth (by omega), cutAt_nth (by omega) (by omega)]
  have hat : ∀ j, j < n → nth L j = ((nth R j : Nat) : Int) := fun j hj => by
    rw [← iL_nth (by omega), ← hL, nth_take hj]
  by_cases h : k < i
  · rw [if_neg (by omega), if_pos h]; exact hat k (by omega)
  · rw [if_pos ⟨by omega, by omega⟩, if_neg h]; exact hat (k + 1) hk1
theorem f56_shr {g P id n i v : Nat} {L : List Int} {R : List Nat} (hsh : cfg.shared g = false) (hg : ∀ x y : Int, Con Try.prog cfg g [I x, .pp [I y]] (.bool (decide (x = y)))) (hne : P ≠ id) (bI : h.bl id = some (.cells false true (L.flatMap (e1 I)))) (bP : h.bl P = some (.cells false false [I v]))
    (hn : n ≤ L.length) (hR : R.length = n) (hL : L.take n = iL R) (hi : i < n) (hv : nth R i = v) (hnd : R.Nodup) (h100 : L.length ≤ 100) :
    ∃ (h' : Hp) (L' : List Int), Shr Try.prog cfg 56 [.sl id 0 n 1, .fn g [.ptr P 0]] h (.sl id 0 (n - 1) 1) h' ∧ h'.nx = h.nx ∧ (∀ k, k ≠ id → h'.bl k = h.bl k) ∧ h'.bl id = some (.cells false true (L'.flatMap (e1 I))) ∧ L'.length = L.length ∧ L'.take (n - 1) = iL (cutAt R i) := by
  suffices hh : ∃ w h', Shr Try.prog cfg 56 [.sl id 0 n 1, .fn g [.ptr P 0]] h w h' ∧ (w = .sl id 0 (n - 1) 1 ∧ h'.nx = h.nx ∧ (∀ k, k ≠ id → h'.bl k = h.bl k) ∧ h'.bl id = some (.cells false true (((shL L i (n - 1)).set (n - 1) 0).flatMap (e1 I)))) by
    obtain ⟨w, h', hs, rfl, r1, r2, r3⟩ := hh
    exact ⟨h', _, hs, r1, r2, r3, by rw [List.length_set, shL_len], shL_cut hn hR hL hi 0⟩
  have ml : maxLen = 9223372036854775807 := by decide
  have hat : ∀ j, j < n → nth L j = ((nth R j : Nat) : Int) := fun j hj => by
    rw [← iL_nth (by omega), ← hL, nth_take hj]
  have hdiff : ∀ j, j < n → j ≠ i → ¬ nth L j = (v : Int) := fun j hj hji e => by
    rw [hat j hj, ← hv] at e
    have e' : nth R j = nth R i := by omega
    have := (List.getElem_inj (h₀ := by omega) (h₁ := by omega) hnd (i := j) (j := i)).1 (by rw [← nth_getElem (by omega), ← nth_getElem (by omega)]; exact e')
    exact hji this
  have k76 := fun h h' K => ConW_num (h := h) (h' := h') (K := K) (f76_con (g := g) (caps := [.pp [I v]]) hsh (fun _ => rfl) (fun x => decide (x = (v : Int))) (iL R) (by rw [iL_len]; omega) fun x _ => hg x v) rfl
  have hidx : idxF (fun x => decide (x = (v : Int))) (iL R) = i := idxF_at (by rw [iL_len]; omega) (by rw [iL_nth (by omega), hv]; simp) fun k hk => by
    have := hdiff k (by omega) (by omega)
    rw [hat k (by omega)] at this
    rw [iL_nth (by omega)]
    exact decide_eq_false this
  rw [hidx] at k76
  have hs1 := fun (G : Hp) (M : List Int) (hM : G.bl id = some (.cells false true (M.flatMap (e1 I)))) (hMn : n ≤ M.length) => seal_part (n := n) hM hMn
  have hs1' := hs1 h L bI hn
  rw [hL] at hs1'
  have hs2 : ∀ G : Hp, G.bl P = some (.cells false false [I v]) → sealA G (.fn g [.ptr P 0]) = some (.fn g [.pp [I v]], G.put P (some (.cells true false [I v]))) := fun G hG => sealA_fn1 g P false false (I v) rfl hG
  have hs2' := hs2 (h.put id (some (.cells true true (L.flatMap (e1 I))))) (by rw [put_bl, if_neg hne]; exact bP)
  have hi1 : ¬ (i : Int) = -1 := by omega
  refine Shr_intro Try.func56 rfl ok56 (Nat.le_of_ble_eq_true rfl) ?_
  simp only [Try.f56, Option.getD_some, initSt2]
  simp (disch := first | (simp only [go_sem, gb0, eq_self]; done) | omega | (simp only [gl1, gl2]; omega)) only [go_sem, ↓reduceIte, Nat.reduceEqDiff, Nat.reduceAdd, Nat.reduceMul, Nat.reduceSub, Int.reduceToNat, Nat.reduceBEq, hs1', hs2', k76, hi1]
  refine WP_cut (fun st G => st 0 = .sl id 0 n 1 ∧ st 5 = I ((n - 1 : Nat) : Int) ∧ G.nx = h.nx ∧ (∀ k, k ≠ id → G.bl k = h.bl k) ∧ G.bl id = some (.cells false true ((shL L i (n - 1)).flatMap (e1 I)))) ?_ ?_
  · refine WP_loopK (fun q st G => ∃ j : Nat, q = n - j ∧ i + 1 ≤ j ∧ j ≤ n ∧ st 0 = .sl id 0 n 1 ∧ st 1 = .fn g [.ptr P 0] ∧ st 5 = I ((j - 1 : Nat) : Int) ∧ st 6 = I j ∧ G.nx = h.nx ∧ (∀ k, k ≠ id → G.bl k = h.bl k) ∧ G.bl id = some (.cells false true ((shL L i (j - 1)).flatMap (e1 I)))) (n - (i + 1))
      ⟨i + 1, rfl, Nat.le_refl _, by omega, by simp (disch := first | (simp only [go_sem, gb0, eq_self]; done) | omega | (simp only [gl1, gl2]; omega)) only [go_sem, ↓reduceIte, Nat.reduceEqDiff, Nat.reduceAdd, Nat.reduceMul, Nat.reduceSub, Int.reduceToNat, Nat.reduceBEq], by simp (disch := first | (simp only [go_sem, gb0, eq_self]; done) | omega | (simp only [gl1, gl2]; omega)) only [go_sem, ↓reduceIte, Nat.reduceEqDiff, Nat.reduceAdd, Nat.reduceMul, Nat.reduceSub, Int.reduceToNat, Nat.reduceBEq], by simp (disch := first | (simp only [go_sem, gb0, eq_self]; done) | omega | (simp only [gl1, gl2]; omega)) only [go_sem, ↓reduceIte, Nat.reduceEqDiff, Nat.reduceAdd, Nat.reduceMul, Nat.reduceSub, Int.reduceToNat, Nat.reduceBEq]; rfl, by simp (disch := first | (simp only [go_sem, gb0, eq_self]; done) | omega | (simp only [gl1, gl2]; omega)) only [go_sem, ↓reduceIte, Nat.reduceEqDiff, Nat.reduceAdd, Nat.reduceMul, Nat.reduceSub, Int.reduceToNat, Nat.reduceBEq]; rfl, rfl, fun _ _ => rfl, by rw [Nat.add_sub_cancel, shL_start]; exact bI⟩ ?_
    rintro q st G ⟨j, rfl, hj1, hj2, s0, s1, s5, s6, gn, gk, gI⟩
    by_cases hjn : j < n
    case neg =>
      have hje : j = n := by omega
      subst hje
      have hjn' : ¬ (j : Int) < j := by omega
      simp (disch := first | (simp only [go_sem, gb0, eq_self]; done) | omega | (simp only [gl1, gl2]; omega)) only [go_sem, ↓reduceIte, Nat.reduceEqDiff, Nat.reduceAdd, Nat.reduceMul, Nat.reduceSub, Int.reduceToNat, Nat.reduceBEq, s0, s1, s5, s6, hjn']
      exact ⟨gn, gk, gI⟩
    have hjn' : (j : Int) < n := by omega
    have hlen := shL_len L i (j - 1)
    have hge : ((shL L i (j - 1)).flatMap (e1 I))[j]? = some (I (nth L j)) := by
      rw [flat_get _ _ _ (by omega), shL_nth (by omega), if_neg (by omega)]
    have bPG := (gk P hne).trans bP
    have kg := fun h h' K => ConW_num (h := h) (h' := h') (K := K) (hg (nth L j) v) rfl
    have hdj := hdiff j hjn (by omega)
    have hs2g := hs2 G bPG
    have hj1n : ((j - 1 : Nat) : Int) < n := by omega
    have hfl : (List.flatMap (e1 I) (shL L i (j - 1))).length = L.length := by rw [flat_len, hlen]
    have hst : storeC G id (j - 1) 1 (some (.cells false true ((shL L i (j - 1)).flatMap (e1 I)))) [I (nth L j)] = some (.skp, G.put id (some (.cells false true ((shL L i j).flatMap (e1 I))))) := by
      rw [storeC_one id (j - 1) true _ (I (nth L j)) rfl (by rw [hfl]; omega), set_flat]
      have := shL_set (L := L) (i := i) (j := j - 1) (by omega) (by omega)
      rw [show j - 1 + 1 = j by omega] at this
      rw [this]
    have hs3 : sealA G (.ptr P 0) = some (.pp [I v], G.put P (some (.cells true false [I v]))) := by
      have hp : (AV.fn g [.ptr P 0]).isPure = false := rfl
      have h2 := hs2g
      simp only [sealA, hp, sealCells] at h2
      have hp2 : (AV.ptr P 0).isPure = false := rfl
      show sealV G (.ptr P 0) = _
      cases hv : sealV G (.ptr P 0) with
      | none => rw [hv] at h2; simp at h2
      | some r =>
        rw [hv] at h2
        obtain ⟨r1, r2⟩ := r
        simp at h2
        obtain ⟨e1, e2⟩ := h2
        rw [e1, e2]
    simp (disch := first | (simp only [go_sem, gb0, eq_self]; done) | omega | (simp only [gl1, gl2]; omega)) only [go_sem, ↓reduceIte, Nat.reduceEqDiff, Nat.reduceAdd, Nat.reduceMul, Nat.reduceSub, Int.reduceToNat, Nat.reduceBEq, s0, s1, s5, s6, hjn', hjn, gI, hge, hsh, hs3, kg, hdj, hj1n, hst]
    rw [LoopK_normal]
    have hjj : j + 1 - 1 = j := rfl
    have hj5 : ((j - 1 : Nat) : Int) + 1 = j := by omega
    refine ⟨n - (j + 1), by omega, j + 1, rfl, by omega, by omega, by simp (disch := first | (simp only [go_sem, gb0, eq_self]; done) | omega | (simp only [gl1, gl2]; omega)) only [go_sem, ↓reduceIte, Nat.reduceEqDiff, Nat.reduceAdd, Nat.reduceMul, Nat.reduceSub, Int.reduceToNat, Nat.reduceBEq, s0], by simp (disch := first | (simp only [go_sem, gb0, eq_self]; done) | omega | (simp only [gl1, gl2]; omega)) only [go_sem, ↓reduceIte, Nat.reduceEqDiff, Nat.reduceAdd, Nat.reduceMul, Nat.reduceSub, Int.reduceToNat, Nat.reduceBEq, s1], by simp (disch := first | (simp only [go_sem, gb0, eq_self]; done) | omega | (simp only [gl1, gl2]; omega)) only [go_sem, ↓reduceIte, Nat.reduceEqDiff, Nat.reduceAdd, Nat.reduceMul, Nat.reduceSub, Int.reduceToNat, Nat.reduceBEq, hj5, hjj], by simp (disch := first | (simp only [go_sem, gb0, eq_self]; done) | omega | (simp only [gl1, gl2]; omega)) only [go_sem, ↓reduceIte, Nat.reduceEqDiff, Nat.reduceAdd, Nat.reduceMul, Nat.reduceSub, Int.reduceToNat, Nat.reduceBEq]; rfl, gn, fun k hk => ?_, ?_⟩
    · rw [put_bl, if_neg hk]; exact gk k hk
    · rw [hjj, put_bl, if_pos rfl]
  rintro st G ⟨s0, s5, gn, gk, gI⟩
  have hsl1 : ∀ (G : Hp) (lim : Option Nat), sliceB Try.prog (some (.slice 3)) (.sl id 0 n 1) (some (I ((n - 1 : Nat) : Int))) none G lim = some (.sl id (n - 1) 1 1) := fun G lim => by
    simp only [sliceB, hiB, Option.bind_some, loB_some _ _ n (show (0 : Int) ≤ ((n - 1 : Nat) : Int) by omega) (by omega), isz3]
    rw [if_pos ⟨trivial, by decide⟩]
    simp only [Int.toNat_natCast, Nat.zero_add, Nat.mul_one, show n - (n - 1) = 1 by omega]
  have hsl2 : ∀ (G : Hp) (lim : Option Nat), sliceB Try.prog (some (.slice 3)) (.sl id 0 n 1) none (some (I ((n - 1 : Nat) : Int))) G lim = some (.sl id 0 (n - 1) 1) := fun G lim => by
    simp only [sliceB, loB, Option.bind_some, hiB_some _ _ n (show (0 : Int) ≤ ((n - 1 : Nat) : Int) by omega) (by omega), isz3]
    rw [if_pos ⟨trivial, by decide⟩]
    simp only [Int.toNat_natCast, Nat.zero_mul, Nat.add_zero, Nat.sub_zero]
  have hclr : clrB Try.prog G (some (.slice 3)) (.sl id (n - 1) 1 1) = some (.tup [], G.put id (some (.cells false true (((shL L i (n - 1)).set (n - 1) 0).flatMap (e1 I))))) := by
    have hfl : (List.flatMap (e1 I) (shL L i (n - 1))).length = L.length := by rw [flat_len, shL_len]
    simp only [clrB, isz3, izero3, gI]
    rw [if_pos ⟨trivial, by decide, rfl, by rw [hfl]; omega, rfl⟩]
    have e : (List.replicate 1 (I 0).cells).flatten = [I 0] := rfl
    rw [e]
    have e2 : setL (List.flatMap (e1 I) (shL L i (n - 1))) (n - 1) [I 0] = (List.flatMap (e1 I) (shL L i (n - 1))).set (n - 1) (I 0) := rfl
    rw [e2, set_flat]
  simp (disch := first | (simp only [go_sem, gb0, eq_self]; done) | omega | (simp only [gl1, gl2]; omega)) only [go_sem, ↓reduceIte, Nat.reduceEqDiff, Nat.reduceAdd, Nat.reduceMul, Nat.reduceSub, Int.reduceToNat, Nat.reduceBEq, s0, s5, gI, hsl1, hsl2, hclr]
  refine ⟨gn, fun k hk => ?_⟩
  rw [if_neg hk]; exact gk k hk
end Go.Proofs.Ytcdpkgmkckfonaa

set_option linter.unusedVariables false
set_option linter.unusedSimpArgs false
set_option maxRecDepth 10000
namespace Go.Proofs.Ytcdpkgmkckfonaa
open Go Go.Am

variable {h h' : Hp} {K : AV → Hp → Prop}

theorem find_some {p : Nat → Bool} {l : List Nat} {i : Nat} (h : l.findIdx? p = some i) : l.find? p = some (nth l i) := by
  obtain ⟨h1, h2, h3⟩ := List.findIdx?_eq_some_iff_getElem.1 h
  rw [← nth_getElem h1] at h2
  refine find_at h1 h2 fun k hk => ?_
  have := h3 k hk
  rw [← nth_getElem (by omega)] at this
  simpa using this
theorem find_none {p : Nat → Bool} {l : List Nat} (h : l.findIdx? p = none) : l.find? p = none := by
  rw [List.findIdx?_eq_none_iff] at h
  rw [List.find?_eq_none]
  intro x hx
  have := h x hx
  simpa using this
theorem cutAt_nodup {R : List Nat} {k : Nat} (h : R.Nodup) : (cutAt R k).Nodup := by
  have hs : (cutAt R k).Sublist R := by
    rw [cutAt]
    have e : R.take k ++ R.drop k = R := List.take_append_drop k R
    have : (R.take k ++ R.drop (k + 1)).Sublist (R.take k ++ R.drop k) := List.Sublist.append (List.Sublist.refl _) (by
      rw [show k + 1 = k + 1 from rfl, ← List.drop_drop]
      exact List.drop_sublist 1 _)
    rw [e] at this; exact this
  exact hs.nodup h
/-- A list of positions that lies in memory, alive. -/
structure PosAt (h : Hp) (id : Nat) (R : List Nat) : Prop where
  lt : id < h.nx
  ex : ∃ L : List Int, h.bl id = some (.cells false true (L.flatMap (e1 I))) ∧ R.length ≤ L.length ∧ L.length ≤ 100 ∧ L.take R.length = iL R
def rstR (a b : List (List Int)) : AV := if gamB a b then .tup [LI (iL (restR a (turnL b a.length (nth a 0).length) a.length (nth a 0).length).1), LI (iL (restR a (turnL b a.length (nth a 0).length) a.length (nth a 0).length).2), I 0] else .tup [LI [], LI [], I 2]
theorem f26_con (a b : List (List Int)) (ha : okLL a) (hb : okLL b) : Con Try.prog cfg 26 [LLI a, LLI b] (rstR a b) := by
  have ml : maxLen = 9223372036854775807 := by decide
  have kk52 := fun h h' K => k52 (h := h) (h' := h') (K := K) a b ha hb
  cases c1 : gamB a b with
  | false =>
    have hr : rstR a b = .tup [LI [], LI [], I 2] := by rw [rstR, c1]; rfl
    rw [hr]
    refine Con_intro Try.func26 rfl ok26 (Nat.le_of_ble_eq_true rfl) rfl ?_
    simp only [Try.f26, Option.getD_some, initSt2]
    simp (disch := first | (simp only [go_sem, gb0, eq_self]; done) | omega | (simp only [gl1, gl2]; omega)) only [go_sem, ↓reduceIte, Nat.reduceEqDiff, Nat.reduceAdd, Nat.reduceMul, Nat.reduceSub, Int.reduceToNat, Nat.reduceBEq, kk52, c1]
    rfl
  | true =>
  obtain ⟨Ta, Tb'⟩ := gamB_Tb c1
  have hce : rstR a b = .tup [LI (iL (restR a (turnL b a.length (nth a 0).length) a.length (nth a 0).length).1), LI (iL (restR a (turnL b a.length (nth a 0).length) a.length (nth a 0).length).2), I 0] := by rw [rstR, c1]; rfl
  rw [hce]
  have hm1 := Ta.m1
  have hm4 := Ta.m4
  have hn1 := Ta.n1
  have hn4 := Ta.n4
  have h0 : 0 < a.length := by omega
  generalize hm : a.length = m at *
  generalize hn : (nth a 0).length = n at *
  have kk53 := fun h h' K => k53 (h := h) (h' := h') (K := K) Tb'
  have Tt := turnL_Tb Tb'
  refine Con_intro Try.func26 rfl ok26 (Nat.le_of_ble_eq_true rfl) rfl ?_
  simp only [Try.f26, Option.getD_some, initSt2]
  simp (disch := first | (simp only [go_sem, gb0, eq_self]; done) | omega | (simp only [gl1, gl2]; omega)) only [go_sem, ↓reduceIte, Nat.reduceEqDiff, Nat.reduceAdd, Nat.reduceMul, Nat.reduceSub, Int.reduceToNat, Nat.reduceBEq, kk52, c1, hm]
  refine WP_cut (fun st h => st 0 = LLI a ∧ st 1 = LLI b ∧ st 8 = .nil ∧ ∃ v, st 7 = v ∧ Go.Am.Own (e1 I) 1 h v (iL (List.range m))) ?_ ?_
  · refine WP_for 20 m (fun i st h => st 0 = LLI a ∧ st 1 = LLI b ∧ st 18 = LLI a ∧ st 19 = I m ∧ st 8 = .nil ∧ ∃ v, st 7 = v ∧ Go.Am.Own (e1 I) 1 h v ((List.range i).map fun i : Nat => (i : Int))) (by simp (disch := first | (simp only [go_sem, gb0, eq_self]; done) | omega | (simp only [gl1, gl2]; omega)) only [go_sem, ↓reduceIte, Nat.reduceEqDiff, Nat.reduceAdd, Nat.reduceMul, Nat.reduceSub, Int.reduceToNat, Nat.reduceBEq]) ⟨by simp (disch := first | (simp only [go_sem, gb0, eq_self]; done) | omega | (simp only [gl1, gl2]; omega)) only [go_sem, ↓reduceIte, Nat.reduceEqDiff, Nat.reduceAdd, Nat.reduceMul, Nat.reduceSub, Int.reduceToNat, Nat.reduceBEq, hm], by simp (disch := first | (simp only [go_sem, gb0, eq_self]; done) | omega | (simp only [gl1, gl2]; omega)) only [go_sem, ↓reduceIte, Nat.reduceEqDiff, Nat.reduceAdd, Nat.reduceMul, Nat.reduceSub, Int.reduceToNat, Nat.reduceBEq, hm], by simp (disch := first | (simp only [go_sem, gb0, eq_self]; done) | omega | (simp only [gl1, gl2]; omega)) only [go_sem, ↓reduceIte, Nat.reduceEqDiff, Nat.reduceAdd, Nat.reduceMul, Nat.reduceSub, Int.reduceToNat, Nat.reduceBEq, hm], by simp (disch := first | (simp only [go_sem, gb0, eq_self]; done) | omega | (simp only [gl1, gl2]; omega)) only [go_sem, ↓reduceIte, Nat.reduceEqDiff, Nat.reduceAdd, Nat.reduceMul, Nat.reduceSub, Int.reduceToNat, Nat.reduceBEq, hm], by simp (disch := first | (simp only [go_sem, gb0, eq_self]; done) | omega | (simp only [gl1, gl2]; omega)) only [go_sem, ↓reduceIte, Nat.reduceEqDiff, Nat.reduceAdd, Nat.reduceMul, Nat.reduceSub, Int.reduceToNat, Nat.reduceBEq], .nil, by simp (disch := first | (simp only [go_sem, gb0, eq_self]; done) | omega | (simp only [gl1, gl2]; omega)) only [go_sem, ↓reduceIte, Nat.reduceEqDiff, Nat.reduceAdd, Nat.reduceMul, Nat.reduceSub, Int.reduceToNat, Nat.reduceBEq], .inl ⟨rfl, rfl⟩⟩ ?_
    rintro i st h hi s20 ⟨s0, s1, s18, s19, s8, v, s7, ov⟩
    by_cases hlt : i < m
    case neg =>
      have hie : i = m := by omega
      subst hie
      simp (disch := first | (simp only [go_sem, gb0, eq_self]; done) | omega | (simp only [gl1, gl2]; omega)) only [go_sem, ↓reduceIte, Nat.reduceEqDiff, Nat.reduceAdd, Nat.reduceMul, Nat.reduceSub, Int.reduceToNat, Nat.reduceBEq, s0, s1, s18, s19, s7, s8, s20, hlt]
      exact ⟨_, rfl, ov⟩
    have hlt' : (i : Int) < m := by omega
    have hbs := fun h : Hp => bsB_one (P := Try.prog) (h := h) 3 (I i) (I i) (I 0) h isz3 izero3 rfl rfl rfl rfl rfl rfl rfl
    have happ := app_one (P := Try.prog) ov 3 8 (I 0) (i : Int) isz3 ibytes3 izero3 rfl (by simp; omega) (by simp; omega)
    simp (disch := first | (simp only [go_sem, gb0, eq_self]; done) | omega | (simp only [gl1, gl2]; omega)) only [go_sem, ↓reduceIte, Nat.reduceEqDiff, Nat.reduceAdd, Nat.reduceMul, Nat.reduceSub, Int.reduceToNat, Nat.reduceBEq, s0, s1, s18, s19, s7, s8, s20, hlt, hlt', hbs, happ]
    rw [ForK_normal]
    refine ⟨hlt, by simp (disch := first | (simp only [go_sem, gb0, eq_self]; done) | omega | (simp only [gl1, gl2]; omega)) only [go_sem, ↓reduceIte, Nat.reduceEqDiff, Nat.reduceAdd, Nat.reduceMul, Nat.reduceSub, Int.reduceToNat, Nat.reduceBEq, s20], by simp (disch := first | (simp only [go_sem, gb0, eq_self]; done) | omega | (simp only [gl1, gl2]; omega)) only [go_sem, ↓reduceIte, Nat.reduceEqDiff, Nat.reduceAdd, Nat.reduceMul, Nat.reduceSub, Int.reduceToNat, Nat.reduceBEq, s0], by simp (disch := first | (simp only [go_sem, gb0, eq_self]; done) | omega | (simp only [gl1, gl2]; omega)) only [go_sem, ↓reduceIte, Nat.reduceEqDiff, Nat.reduceAdd, Nat.reduceMul, Nat.reduceSub, Int.reduceToNat, Nat.reduceBEq, s1], by simp (disch := first | (simp only [go_sem, gb0, eq_self]; done) | omega | (simp only [gl1, gl2]; omega)) only [go_sem, ↓reduceIte, Nat.reduceEqDiff, Nat.reduceAdd, Nat.reduceMul, Nat.reduceSub, Int.reduceToNat, Nat.reduceBEq, s18], by simp (disch := first | (simp only [go_sem, gb0, eq_self]; done) | omega | (simp only [gl1, gl2]; omega)) only [go_sem, ↓reduceIte, Nat.reduceEqDiff, Nat.reduceAdd, Nat.reduceMul, Nat.reduceSub, Int.reduceToNat, Nat.reduceBEq, s19], by simp (disch := first | (simp only [go_sem, gb0, eq_self]; done) | omega | (simp only [gl1, gl2]; omega)) only [go_sem, ↓reduceIte, Nat.reduceEqDiff, Nat.reduceAdd, Nat.reduceMul, Nat.reduceSub, Int.reduceToNat, Nat.reduceBEq, s8], _, by simp (disch := first | (simp only [go_sem, gb0, eq_self]; done) | omega | (simp only [gl1, gl2]; omega)) only [go_sem, ↓reduceIte, Nat.reduceEqDiff, Nat.reduceAdd, Nat.reduceMul, Nat.reduceSub, Int.reduceToNat, Nat.reduceBEq]; rfl, ?_⟩
    have := Own.app (f := e1 I) (sz := 1) h v ((List.range i).map (fun i : Nat => (i : Int)) ++ [(i : Int)])
    rw [rows_snoc (fun i : Nat => (i : Int)) i] at this ⊢
    exact this
  rintro st h ⟨s0, s1, s8, v, s7, ov⟩
  simp (disch := first | (simp only [go_sem, gb0, eq_self]; done) | omega | (simp only [gl1, gl2]; omega)) only [go_sem, ↓reduceIte, Nat.reduceEqDiff, Nat.reduceAdd, Nat.reduceMul, Nat.reduceSub, Int.reduceToNat, Nat.reduceBEq, s0, s1, s7, s8, h0, hn]
  refine WP_cut (fun st h => st 0 = LLI a ∧ st 1 = LLI b ∧ ∃ v w, st 7 = v ∧ st 8 = w ∧ Go.Am.Own (e1 I) 1 h v (iL (List.range m)) ∧ Go.Am.Own (e1 I) 1 h w (iL (List.range n)) ∧ Dis v w) ?_ ?_
  · refine WP_for 32 n (fun i st h => st 0 = LLI a ∧ st 1 = LLI b ∧ st 31 = I n ∧ st 7 = v ∧ Go.Am.Own (e1 I) 1 h v (iL (List.range m)) ∧ ∃ w, st 8 = w ∧ Go.Am.Own (e1 I) 1 h w ((List.range i).map fun i : Nat => (i : Int)) ∧ Dis v w) (by simp (disch := first | (simp only [go_sem, gb0, eq_self]; done) | omega | (simp only [gl1, gl2]; omega)) only [go_sem, ↓reduceIte, Nat.reduceEqDiff, Nat.reduceAdd, Nat.reduceMul, Nat.reduceSub, Int.reduceToNat, Nat.reduceBEq]) ⟨by simp (disch := first | (simp only [go_sem, gb0, eq_self]; done) | omega | (simp only [gl1, gl2]; omega)) only [go_sem, ↓reduceIte, Nat.reduceEqDiff, Nat.reduceAdd, Nat.reduceMul, Nat.reduceSub, Int.reduceToNat, Nat.reduceBEq, s0, s1, hn], by simp (disch := first | (simp only [go_sem, gb0, eq_self]; done) | omega | (simp only [gl1, gl2]; omega)) only [go_sem, ↓reduceIte, Nat.reduceEqDiff, Nat.reduceAdd, Nat.reduceMul, Nat.reduceSub, Int.reduceToNat, Nat.reduceBEq, s0, s1, hn], by simp (disch := first | (simp only [go_sem, gb0, eq_self]; done) | omega | (simp only [gl1, gl2]; omega)) only [go_sem, ↓reduceIte, Nat.reduceEqDiff, Nat.reduceAdd, Nat.reduceMul, Nat.reduceSub, Int.reduceToNat, Nat.reduceBEq, s0, s1, hn], by simp (disch := first | (simp only [go_sem, gb0, eq_self]; done) | omega | (simp only [gl1, gl2]; omega)) only [go_sem, ↓reduceIte, Nat.reduceEqDiff, Nat.reduceAdd, Nat.reduceMul, Nat.reduceSub, Int.reduceToNat, Nat.reduceBEq, s7], ov, .nil, by simp (disch := first | (simp only [go_sem, gb0, eq_self]; done) | omega | (simp only [gl1, gl2]; omega)) only [go_sem, ↓reduceIte, Nat.reduceEqDiff, Nat.reduceAdd, Nat.reduceMul, Nat.reduceSub, Int.reduceToNat, Nat.reduceBEq, s8], .inl ⟨rfl, rfl⟩, Dis.nil_r _⟩ ?_
    clear s0 s1 s8 s7 ov
    rintro i st h hi s32 ⟨s0, s1, s31, s7, ov, w, s8, ow, dd⟩
    by_cases hlt : i < n
    case neg =>
      have hie : i = n := by omega
      subst hie
      simp (disch := first | (simp only [go_sem, gb0, eq_self]; done) | omega | (simp only [gl1, gl2]; omega)) only [go_sem, ↓reduceIte, Nat.reduceEqDiff, Nat.reduceAdd, Nat.reduceMul, Nat.reduceSub, Int.reduceToNat, Nat.reduceBEq, s0, s1, s31, s7, s8, s32, hlt]
      exact ⟨_, _, rfl, rfl, ov, ow, dd⟩
    have hlt' : (i : Int) < n := by omega
    have hbs := fun h : Hp => bsB_one (P := Try.prog) (h := h) 3 (I i) (I i) (I 0) h isz3 izero3 rfl rfl rfl rfl rfl rfl rfl
    have happ := app_one (P := Try.prog) ow 3 8 (I 0) (i : Int) isz3 ibytes3 izero3 rfl (by simp; omega) (by simp; omega)
    simp (disch := first | (simp only [go_sem, gb0, eq_self]; done) | omega | (simp only [gl1, gl2]; omega)) only [go_sem, ↓reduceIte, Nat.reduceEqDiff, Nat.reduceAdd, Nat.reduceMul, Nat.reduceSub, Int.reduceToNat, Nat.reduceBEq, s0, s1, s31, s7, s8, s32, hlt, hlt', hbs, happ]
    rw [ForK_normal]
    refine ⟨hlt, by simp (disch := first | (simp only [go_sem, gb0, eq_self]; done) | omega | (simp only [gl1, gl2]; omega)) only [go_sem, ↓reduceIte, Nat.reduceEqDiff, Nat.reduceAdd, Nat.reduceMul, Nat.reduceSub, Int.reduceToNat, Nat.reduceBEq, s32], by simp (disch := first | (simp only [go_sem, gb0, eq_self]; done) | omega | (simp only [gl1, gl2]; omega)) only [go_sem, ↓reduceIte, Nat.reduceEqDiff, Nat.reduceAdd, Nat.reduceMul, Nat.reduceSub, Int.reduceToNat, Nat.reduceBEq, s0], by simp (disch := first | (simp only [go_sem, gb0, eq_self]; done) | omega | (simp only [gl1, gl2]; omega)) only [go_sem, ↓reduceIte, Nat.reduceEqDiff, Nat.reduceAdd, Nat.reduceMul, Nat.reduceSub, Int.reduceToNat, Nat.reduceBEq, s1], by simp (disch := first | (simp only [go_sem, gb0, eq_self]; done) | omega | (simp only [gl1, gl2]; omega)) only [go_sem, ↓reduceIte, Nat.reduceEqDiff, Nat.reduceAdd, Nat.reduceMul, Nat.reduceSub, Int.reduceToNat, Nat.reduceBEq, s31], by simp (disch := first | (simp only [go_sem, gb0, eq_self]; done) | omega | (simp only [gl1, gl2]; omega)) only [go_sem, ↓reduceIte, Nat.reduceEqDiff, Nat.reduceAdd, Nat.reduceMul, Nat.reduceSub, Int.reduceToNat, Nat.reduceBEq, s7], ov.keep dd.symm _, _, by simp (disch := first | (simp only [go_sem, gb0, eq_self]; done) | omega | (simp only [gl1, gl2]; omega)) only [go_sem, ↓reduceIte, Nat.reduceEqDiff, Nat.reduceAdd, Nat.reduceMul, Nat.reduceSub, Int.reduceToNat, Nat.reduceBEq]; rfl, ?_, (ov.dis _ _).symm⟩
    have := Own.app (f := e1 I) (sz := 1) h w ((List.range i).map (fun i : Nat => (i : Int)) ++ [(i : Int)])
    rw [rows_snoc (fun i : Nat => (i : Int)) i] at this ⊢
    exact this
  clear s0 s1 s8 s7 ov v
  rintro st h ⟨s0, s1, v, w, s7, s8, ov, ow, dd⟩
  obtain ⟨id1, rfl, hid1, hb1⟩ := ov.sl (by rw [iL_len]; simp; omega)
  obtain ⟨id2, rfl, hid2, hb2⟩ := ow.sl (by rw [iL_len]; simp; omega)
  have hne : id1 ≠ id2 := dd _ _ _ _ _ _ _ _ rfl rfl
  obtain ⟨X, hX⟩ : ∃ X, restR a (turnL b m n) m n = X := ⟨_, rfl⟩
  rw [hX]
  rw [restR] at hX
  rw [iL_len, List.length_range] at s7 s8
  simp (disch := first | (simp only [go_sem, gb0, eq_self]; done) | omega | (simp only [gl1, gl2]; omega)) only [go_sem, ↓reduceIte, Nat.reduceEqDiff, Nat.reduceAdd, Nat.reduceMul, Nat.reduceSub, Int.reduceToNat, Nat.reduceBEq, s0, s1, s7, s8, kk53]
  generalize turnL b m n = t at *
  refine WP_loopK (fun q st h => ∃ R C : List Nat, q = R.length + C.length ∧ st 0 = LLI a ∧ st 11 = LLI t ∧ st 7 = .sl id1 0 R.length 1 ∧ st 8 = .sl id2 0 C.length 1 ∧ PosAt h id1 R ∧ PosAt h id2 C ∧ restF a t (R.length + C.length) R C = X ∧ ((∀ i ∈ R, i < m) ∧ R.Nodup ∧ R.length ≤ 4) ∧ ((∀ j ∈ C, j < n) ∧ C.Nodup ∧ C.length ≤ 4)) (m + n)
    ⟨List.range m, List.range n, by simp, by simp (disch := first | (simp only [go_sem, gb0, eq_self]; done) | omega | (simp only [gl1, gl2]; omega)) only [go_sem, ↓reduceIte, Nat.reduceEqDiff, Nat.reduceAdd, Nat.reduceMul, Nat.reduceSub, Int.reduceToNat, Nat.reduceBEq, s0, s1], by simp (disch := first | (simp only [go_sem, gb0, eq_self]; done) | omega | (simp only [gl1, gl2]; omega)) only [go_sem, ↓reduceIte, Nat.reduceEqDiff, Nat.reduceAdd, Nat.reduceMul, Nat.reduceSub, Int.reduceToNat, Nat.reduceBEq, s0, s1], by simp (disch := first | (simp only [go_sem, gb0, eq_self]; done) | omega | (simp only [gl1, gl2]; omega)) only [go_sem, ↓reduceIte, Nat.reduceEqDiff, Nat.reduceAdd, Nat.reduceMul, Nat.reduceSub, Int.reduceToNat, Nat.reduceBEq, s7]; simp, by simp (disch := first | (simp only [go_sem, gb0, eq_self]; done) | omega | (simp only [gl1, gl2]; omega)) only [go_sem, ↓reduceIte, Nat.reduceEqDiff, Nat.reduceAdd, Nat.reduceMul, Nat.reduceSub, Int.reduceToNat, Nat.reduceBEq, s8]; simp, ⟨hid1, _, hb1, by rw [iL_len]; exact Nat.le_refl _, by rw [iL_len]; simp; omega, by rw [List.take_of_length_le (by rw [iL_len]; exact Nat.le_refl _)]⟩, ⟨hid2, _, hb2, by rw [iL_len]; exact Nat.le_refl _, by rw [iL_len]; simp; omega, by rw [List.take_of_length_le (by rw [iL_len]; exact Nat.le_refl _)]⟩, by simpa using hX, ⟨fun i hi => List.mem_range.1 hi, List.nodup_range, by simpa using hm4⟩, ⟨fun i hi => List.mem_range.1 hi, List.nodup_range, by simpa using hn4⟩⟩ ?_
  clear s0 s1 s7 s8 hid1 hid2 hb1 hb2 ov ow h
  rintro q st h ⟨R, C, rfl, s0, s11, s7, s8, p1, p2, hq, ⟨hR, hRd, hRl⟩, ⟨hC, hCd, hCl⟩⟩
  obtain ⟨hid1, L1, b1, hL1, hL1', t1⟩ := p1
  obtain ⟨hid2, L2, b2, hL2, hL2', t2⟩ := p2
  have kr := fun h h' K => k55 (h := h) (h' := h') (K := K) Ta.len Ta.row R C hR hC (by omega) (by omega)
  have kc := fun h h' K => k55 (h := h) (h' := h') (K := K) Tt.len Tt.row C R hC hR (by omega) (by omega)
  have z1 := seal_part (n := R.length) b1 hL1
  have z2 := seal_part (n := C.length) b2 hL2
  have z12 := seal_part (h := h.put id1 (some (.cells true true (L1.flatMap (e1 I))))) (n := C.length) (L := L2) (id := id2) (fz := false) (by rw [put_bl, if_neg hne.symm]; exact b2) hL2
  have z21 := seal_part (h := h.put id2 (some (.cells true true (L2.flatMap (e1 I))))) (n := R.length) (L := L1) (id := id1) (fz := false) (by rw [put_bl, if_neg hne]; exact b1) hL1
  rw [t1] at z1 z21
  rw [t2] at z2 z12
  obtain ⟨P, hP⟩ : ∃ P, h.nx = P := ⟨_, rfl⟩
  rw [hP] at hid1 hid2
  have nP : ¬ P = P + 1 := by omega
  have nP' : ¬ P + 1 = P := by omega
  have n1P : ¬ id1 = P := by omega
  have n1Q : ¬ id1 = P + 1 := by omega
  have n2P : ¬ id2 = P := by omega
  have n2Q : ¬ id2 = P + 1 := by omega
  simp (disch := first | (simp only [go_sem, gb0, eq_self]; done) | omega | (simp only [gl1, gl2]; omega)) only [go_sem, ↓reduceIte, Nat.reduceEqDiff, Nat.reduceAdd, Nat.reduceMul, Nat.reduceSub, Int.reduceToNat, Nat.reduceBEq, s0, s11, s7, s8, z1, z2, z12, z21, kr, kc, hP, nP, nP', ↓stopY 16 false]
  refine WPy_go (fun st h => st 0 = LLI a ∧ st 11 = LLI t ∧ st 7 = .sl id1 0 R.length 1 ∧ st 8 = .sl id2 0 C.length 1 ∧ st 12 = .ptr P 0 ∧ st 13 = .ptr (P + 1) 0 ∧ h.nx = P + 1 + 1 ∧ h.bl id1 = some (.cells false true (L1.flatMap (e1 I))) ∧ h.bl id2 = some (.cells false true (L2.flatMap (e1 I))) ∧ h.bl P = some (.cells false false [I (dmI a R C)]) ∧ h.bl (P + 1) = some (.cells false false [I (dmI t C R)]))
    ⟨by simp (disch := first | (simp only [go_sem, gb0, eq_self]; done) | omega | (simp only [gl1, gl2]; omega)) only [go_sem, ↓reduceIte, Nat.reduceEqDiff, Nat.reduceAdd, Nat.reduceMul, Nat.reduceSub, Int.reduceToNat, Nat.reduceBEq, s0, s11], by simp (disch := first | (simp only [go_sem, gb0, eq_self]; done) | omega | (simp only [gl1, gl2]; omega)) only [go_sem, ↓reduceIte, Nat.reduceEqDiff, Nat.reduceAdd, Nat.reduceMul, Nat.reduceSub, Int.reduceToNat, Nat.reduceBEq, s0, s11], by simp (disch := first | (simp only [go_sem, gb0, eq_self]; done) | omega | (simp only [gl1, gl2]; omega)) only [go_sem, ↓reduceIte, Nat.reduceEqDiff, Nat.reduceAdd, Nat.reduceMul, Nat.reduceSub, Int.reduceToNat, Nat.reduceBEq, s7], by simp (disch := first | (simp only [go_sem, gb0, eq_self]; done) | omega | (simp only [gl1, gl2]; omega)) only [go_sem, ↓reduceIte, Nat.reduceEqDiff, Nat.reduceAdd, Nat.reduceMul, Nat.reduceSub, Int.reduceToNat, Nat.reduceBEq, s8], by simp (disch := first | (simp only [go_sem, gb0, eq_self]; done) | omega | (simp only [gl1, gl2]; omega)) only [go_sem, ↓reduceIte, Nat.reduceEqDiff, Nat.reduceAdd, Nat.reduceMul, Nat.reduceSub, Int.reduceToNat, Nat.reduceBEq, hP], by simp (disch := first | (simp only [go_sem, gb0, eq_self]; done) | omega | (simp only [gl1, gl2]; omega)) only [go_sem, ↓reduceIte, Nat.reduceEqDiff, Nat.reduceAdd, Nat.reduceMul, Nat.reduceSub, Int.reduceToNat, Nat.reduceBEq, hP], by simp (disch := first | (simp only [go_sem, gb0, eq_self]; done) | omega | (simp only [gl1, gl2]; omega)) only [go_sem, ↓reduceIte, Nat.reduceEqDiff, Nat.reduceAdd, Nat.reduceMul, Nat.reduceSub, Int.reduceToNat, Nat.reduceBEq, hP], by simp (disch := first | (simp only [go_sem, gb0, eq_self]; done) | omega | (simp only [gl1, gl2]; omega)) only [go_sem, ↓reduceIte, Nat.reduceEqDiff, Nat.reduceAdd, Nat.reduceMul, Nat.reduceSub, Int.reduceToNat, Nat.reduceBEq, hP, n1P, n1Q, b1], by simp (disch := first | (simp only [go_sem, gb0, eq_self]; done) | omega | (simp only [gl1, gl2]; omega)) only [go_sem, ↓reduceIte, Nat.reduceEqDiff, Nat.reduceAdd, Nat.reduceMul, Nat.reduceSub, Int.reduceToNat, Nat.reduceBEq, hP, n2P, n2Q, b2], by simp (disch := first | (simp only [go_sem, gb0, eq_self]; done) | omega | (simp only [gl1, gl2]; omega)) only [go_sem, ↓reduceIte, Nat.reduceEqDiff, Nat.reduceAdd, Nat.reduceMul, Nat.reduceSub, Int.reduceToNat, Nat.reduceBEq, hP, nP], by simp (disch := first | (simp only [go_sem, gb0, eq_self]; done) | omega | (simp only [gl1, gl2]; omega)) only [go_sem, ↓reduceIte, Nat.reduceEqDiff, Nat.reduceAdd, Nat.reduceMul, Nat.reduceSub, Int.reduceToNat, Nat.reduceBEq, hP, nP']⟩ ?_
  clear s0 s11 s7 s8 b1 b2 z1 z2 z12 z21 hP kr kc
  rintro st h ⟨s0, s11, s7, s8, s12, s13, hnx, b1, b2, bP, bQ⟩
  cases hi : R.findIdx? (isD a R C) with
  | some i =>
    have hil := findI_lt hi
    have e1 : dmI a R C = (nth R i : Nat) := by rw [dmI, find_some hi]
    rw [e1] at bP
    have hlen := cutAt_len hil
    have i0 : ¬ ((nth R i : Nat) : Int) < 0 := by omega
    have i1 : (0 : Int) ≤ ((nth R i : Nat) : Int) := by omega
    obtain ⟨h', L', hs, g1, g2, g3, g4, g5⟩ := f56_shr (h := h) (g := 57) (P := P) (id := id1) (n := R.length) (i := i) (v := nth R i) (L := L1) (R := R) (by kernel_rfl) f57_con (fun e => n1P e.symm) b1 bP hL1 rfl t1 hil rfl hRd hL1'
    have k56 := fun K => CallW_shr (K := K) 56 _ (by kernel_rfl) hs
    have hq' : restF a t ((cutAt R i).length + C.length) (cutAt R i) C = X := by
      rw [show R.length + C.length = ((cutAt R i).length + C.length) + 1 by omega, restF, hi] at hq
      exact hq
    have hln : R.length - 1 = (cutAt R i).length := by omega
    rw [hln] at g5
    simp (disch := first | (simp only [go_sem, gb0, eq_self]; done) | omega | (simp only [gl1, gl2]; omega)) only [go_sem, ↓reduceIte, Nat.reduceEqDiff, Nat.reduceAdd, Nat.reduceMul, Nat.reduceSub, Int.reduceToNat, Nat.reduceBEq, s0, s11, s7, s8, s12, s13, hnx, bP, bQ, i0, i1, k56]
    rw [LoopK_normal]
    exact ⟨(cutAt R i).length + C.length, by omega, cutAt R i, C, rfl, by simp (disch := first | (simp only [go_sem, gb0, eq_self]; done) | omega | (simp only [gl1, gl2]; omega)) only [go_sem, ↓reduceIte, Nat.reduceEqDiff, Nat.reduceAdd, Nat.reduceMul, Nat.reduceSub, Int.reduceToNat, Nat.reduceBEq, s0], by simp (disch := first | (simp only [go_sem, gb0, eq_self]; done) | omega | (simp only [gl1, gl2]; omega)) only [go_sem, ↓reduceIte, Nat.reduceEqDiff, Nat.reduceAdd, Nat.reduceMul, Nat.reduceSub, Int.reduceToNat, Nat.reduceBEq, s11], by simp (disch := first | (simp only [go_sem, gb0, eq_self]; done) | omega | (simp only [gl1, gl2]; omega)) only [go_sem, ↓reduceIte, Nat.reduceEqDiff, Nat.reduceAdd, Nat.reduceMul, Nat.reduceSub, Int.reduceToNat, Nat.reduceBEq, hln], by simp (disch := first | (simp only [go_sem, gb0, eq_self]; done) | omega | (simp only [gl1, gl2]; omega)) only [go_sem, ↓reduceIte, Nat.reduceEqDiff, Nat.reduceAdd, Nat.reduceMul, Nat.reduceSub, Int.reduceToNat, Nat.reduceBEq, s8], ⟨by omega, L', g3, by omega, by omega, g5⟩, ⟨by omega, L2, (g2 id2 hne.symm).trans b2, hL2, hL2', t2⟩, hq', ⟨fun x hx => hR x (cutAt_mem hx), cutAt_nodup hRd, by omega⟩, hC, hCd, hCl⟩
  | none =>
  have e1 : dmI a R C = -1 := by rw [dmI, find_none hi]
  have m1 : ¬ (0 : Int) ≤ -1 := by decide
  have m2 : (-1 : Int) < 0 := by decide
  rw [e1] at bP
  cases hj : C.findIdx? (isD t C R) with
  | some j =>
    have hjl := findI_lt hj
    have e2 : dmI t C R = (nth C j : Nat) := by rw [dmI, find_some hj]
    rw [e2] at bQ
    have hlen := cutAt_len hjl
    have j0 : ¬ ((nth C j : Nat) : Int) < 0 := by omega
    obtain ⟨h', L', hs, g1, g2, g3, g4, g5⟩ := f56_shr (h := h) (g := 58) (P := P + 1) (id := id2) (n := C.length) (i := j) (v := nth C j) (L := L2) (R := C) (by kernel_rfl) f58_con (fun e => n2Q e.symm) b2 bQ hL2 rfl t2 hjl rfl hCd hL2'
    have k56 := fun K => CallW_shr (K := K) 56 _ (by kernel_rfl) hs
    have hq' : restF a t (R.length + (cutAt C j).length) R (cutAt C j) = X := by
      rw [show R.length + C.length = (R.length + (cutAt C j).length) + 1 by omega, restF, hi, hj] at hq
      exact hq
    have hln : C.length - 1 = (cutAt C j).length := by omega
    rw [hln] at g5
    simp (disch := first | (simp only [go_sem, gb0, eq_self]; done) | omega | (simp only [gl1, gl2]; omega)) only [go_sem, ↓reduceIte, Nat.reduceEqDiff, Nat.reduceAdd, Nat.reduceMul, Nat.reduceSub, Int.reduceToNat, Nat.reduceBEq, s0, s11, s7, s8, s12, s13, hnx, bP, bQ, j0, m1, m2, k56]
    rw [LoopK_normal]
    exact ⟨R.length + (cutAt C j).length, by omega, R, cutAt C j, rfl, by simp (disch := first | (simp only [go_sem, gb0, eq_self]; done) | omega | (simp only [gl1, gl2]; omega)) only [go_sem, ↓reduceIte, Nat.reduceEqDiff, Nat.reduceAdd, Nat.reduceMul, Nat.reduceSub, Int.reduceToNat, Nat.reduceBEq, s0], by simp (disch := first | (simp only [go_sem, gb0, eq_self]; done) | omega | (simp only [gl1, gl2]; omega)) only [go_sem, ↓reduceIte, Nat.reduceEqDiff, Nat.reduceAdd, Nat.reduceMul, Nat.reduceSub, Int.reduceToNat, Nat.reduceBEq, s11], by simp (disch := first | (simp only [go_sem, gb0, eq_self]; done) | omega | (simp only [gl1, gl2]; omega)) only [go_sem, ↓reduceIte, Nat.reduceEqDiff, Nat.reduceAdd, Nat.reduceMul, Nat.reduceSub, Int.reduceToNat, Nat.reduceBEq, s7], by simp (disch := first | (simp only [go_sem, gb0, eq_self]; done) | omega | (simp only [gl1, gl2]; omega)) only [go_sem, ↓reduceIte, Nat.reduceEqDiff, Nat.reduceAdd, Nat.reduceMul, Nat.reduceSub, Int.reduceToNat, Nat.reduceBEq, hln], ⟨by omega, L1, (g2 id1 hne).trans b1, hL1, hL1', t1⟩, ⟨by omega, L', g3, by omega, by omega, g5⟩, hq', ⟨hR, hRd, hRl⟩, fun x hx => hC x (cutAt_mem hx), cutAt_nodup hCd, by omega⟩
  | none =>
    have e2 : dmI t C R = -1 := by rw [dmI, find_none hj]
    rw [e2] at bQ
    have hXe : X = (R, C) := by
      rw [← hq]
      cases hz : R.length + C.length with
      | zero => rfl
      | succ f => rw [restF, hi, hj]
    rw [hXe]
    have z1 := seal_part (n := R.length) b1 hL1
    have z12 := seal_part (h := h.put id1 (some (.cells true true (L1.flatMap (Go.Am.e1 I))))) (n := C.length) (L := L2) (id := id2) (fz := false) (by rw [put_bl, if_neg hne.symm]; exact b2) hL2
    rw [t1] at z1
    rw [t2] at z12
    simp (disch := first | (simp only [go_sem, gb0, eq_self]; done) | omega | (simp only [gl1, gl2]; omega)) only [go_sem, ↓reduceIte, Nat.reduceEqDiff, Nat.reduceAdd, Nat.reduceMul, Nat.reduceSub, Int.reduceToNat, Nat.reduceBEq, s0, s11, s7, s8, s12, s13, hnx, bP, bQ, m1, m2, z1, z12]
end Go.Proofs.Ytcdpkgmkckfonaa

set_option linter.unusedVariables false
set_option linter.unusedSimpArgs false
set_option maxRecDepth 10000
namespace Go.Proofs.Ytcdpkgmkckfonaa
open Go Go.Am

variable {h h' : Hp} {K : AV → Hp → Prop}

/-! ### Mix -/
/-! ### The laws' copies -/
def tabRow (a : List (List Int)) (i : Nat) : List Int := (nth a i).take (min (nth a i).length 6)
def tabM (a : List (List Int)) : List (List Int) := (List.range (min a.length 6)).map (tabRow a)
theorem tabM_ok (a : List (List Int)) : okLL (tabM a) := by
  have ml : maxLen = 9223372036854775807 := by decide
  refine ⟨by simp [tabM]; omega, fun l hl => ?_⟩
  obtain ⟨i, _, rfl⟩ := List.mem_map.1 hl
  simp [tabRow]; omega
theorem f15_con (l : List (List Int)) (hl : okLL l) : Con Try.prog cfg 15 [LLI l] (LLI (tabM l)) := by
  have ml : maxLen = 9223372036854775807 := by decide
  have hll := hl.len
  refine Con_intro Try.func15 rfl ok15 (Nat.le_of_ble_eq_true rfl) rfl ?_
  simp only [Try.f15, Option.getD_some, initSt1]
  simp (disch := first | (simp only [go_sem, gb0, eq_self]; done) | omega | (simp only [gl1, gl2]; omega)) only [go_sem, ↓reduceIte, Nat.reduceEqDiff, Nat.reduceAdd, Nat.reduceMul, Nat.reduceSub, Int.reduceToNat, Nat.reduceBEq]
  refine WP_cut (fun st h => ∃ v, st 3 = v ∧ Go.Am.Own (e1 LI) 1 h v (tabM l)) ?_ ?_
  · refine WP_for 4 (min l.length 6) (fun i st h => st 0 = LLI l ∧ ∃ v, st 3 = v ∧ Go.Am.Own (e1 LI) 1 h v ((List.range i).map (tabRow l))) (by simp (disch := first | (simp only [go_sem, gb0, eq_self]; done) | omega | (simp only [gl1, gl2]; omega)) only [go_sem, ↓reduceIte, Nat.reduceEqDiff, Nat.reduceAdd, Nat.reduceMul, Nat.reduceSub, Int.reduceToNat, Nat.reduceBEq]) ⟨by simp (disch := first | (simp only [go_sem, gb0, eq_self]; done) | omega | (simp only [gl1, gl2]; omega)) only [go_sem, ↓reduceIte, Nat.reduceEqDiff, Nat.reduceAdd, Nat.reduceMul, Nat.reduceSub, Int.reduceToNat, Nat.reduceBEq], .nil, by simp (disch := first | (simp only [go_sem, gb0, eq_self]; done) | omega | (simp only [gl1, gl2]; omega)) only [go_sem, ↓reduceIte, Nat.reduceEqDiff, Nat.reduceAdd, Nat.reduceMul, Nat.reduceSub, Int.reduceToNat, Nat.reduceBEq], .inl ⟨rfl, rfl⟩⟩ ?_
    rintro i st h hi s4 ⟨s0, v, s3, how⟩
    by_cases hlt : i < l.length
    case neg =>
      have hie : i = min l.length 6 := by omega
      rw [hie] at how
      simp (disch := first | (simp only [go_sem, gb0, eq_self]; done) | omega | (simp only [gl1, gl2]; omega)) only [go_sem, ↓reduceIte, Nat.reduceEqDiff, Nat.reduceAdd, Nat.reduceMul, Nat.reduceSub, Int.reduceToNat, Nat.reduceBEq, s4, s0, s3, hlt]
      exact ⟨_, rfl, how⟩
    by_cases h8 : (i : Int) < 6
    case neg =>
      have hie : i = min l.length 6 := by omega
      rw [hie] at how
      simp (disch := first | (simp only [go_sem, gb0, eq_self]; done) | omega | (simp only [gl1, gl2]; omega)) only [go_sem, ↓reduceIte, Nat.reduceEqDiff, Nat.reduceAdd, Nat.reduceMul, Nat.reduceSub, Int.reduceToNat, Nat.reduceBEq, s4, s0, s3, hlt, h8]
      exact ⟨_, rfl, how⟩
    have hrl := hl.row _ (nth_mem hlt)
    have hmin : min ((nth l i).length : Int) 6 = ((min (nth l i).length 6 : Nat) : Int) := by omega
    have htl : (tabRow l i).length = min (nth l i).length 6 := by rw [tabRow, List.length_take]; omega
    have hrow : (nth l i).take (min (nth l i).length 6) = tabRow l i := rfl
    have happ1 := app_nil (P := Try.prog) (h := h) (f := e1 I) 3 8 (I 0) (LI (tabRow l i)) (tabRow l i) isz3 ibytes3 izero3 rfl (cellsOf_L _ _) (lenA_L _ _) (by omega) (by omega)
    have hse : sealA (h.alloc (.cells false true ((tabRow l i).flatMap (e1 I)))) (.sl h.nx 0 (tabRow l i).length 1) = some (LI (tabRow l i), (h.alloc (.cells false true ((tabRow l i).flatMap (e1 I)))).put h.nx (some (.cells true true ((tabRow l i).flatMap (e1 I))))) := by
      simp (disch := first | (simp only [go_sem, gb0, eq_self]; done) | omega | (simp only [gl1, gl2]; omega)) only [go_sem, ↓reduceIte, Nat.reduceEqDiff, Nat.reduceAdd, Nat.reduceMul, Nat.reduceSub, Int.reduceToNat, Nat.reduceBEq]
    have hbs := bsB_one (P := Try.prog) 31 _ (LI (tabRow l i)) .nil _ isz31 izero31 rfl rfl rfl hse rfl rfl (pure_L _)
    have how2 : Go.Am.Own (e1 LI) 1 ((h.alloc (.cells false true ((tabRow l i).flatMap (e1 I)))).put h.nx (some (.cells true true ((tabRow l i).flatMap (e1 I))))) v ((List.range i).map (tabRow l)) :=
      how.mono (by rw [put_nx, alloc_nx]; omega) fun q hq => by rw [put_bl, if_neg (by omega), alloc_bl, if_neg (by omega)]
    have happ := app_one (P := Try.prog) how2 31 24 .nil (tabRow l i) isz31 ibytes31 izero31 rfl (by simp; omega) (by simp; omega)
    simp (disch := first | (simp only [go_sem, gb0, eq_self]; done) | omega | (simp only [gl1, gl2]; omega)) only [go_sem, ↓reduceIte, Nat.reduceEqDiff, Nat.reduceAdd, Nat.reduceMul, Nat.reduceSub, Int.reduceToNat, Nat.reduceBEq, s4, s0, s3, hlt, h8, hmin, hrow, happ1, hbs, happ]
    rw [ForK_normal]
    refine ⟨by omega, by simp (disch := first | (simp only [go_sem, gb0, eq_self]; done) | omega | (simp only [gl1, gl2]; omega)) only [go_sem, ↓reduceIte, Nat.reduceEqDiff, Nat.reduceAdd, Nat.reduceMul, Nat.reduceSub, Int.reduceToNat, Nat.reduceBEq, s4], by simp (disch := first | (simp only [go_sem, gb0, eq_self]; done) | omega | (simp only [gl1, gl2]; omega)) only [go_sem, ↓reduceIte, Nat.reduceEqDiff, Nat.reduceAdd, Nat.reduceMul, Nat.reduceSub, Int.reduceToNat, Nat.reduceBEq, s0], _, by simp (disch := first | (simp only [go_sem, gb0, eq_self]; done) | omega | (simp only [gl1, gl2]; omega)) only [go_sem, ↓reduceIte, Nat.reduceEqDiff, Nat.reduceAdd, Nat.reduceMul, Nat.reduceSub, Int.reduceToNat, Nat.reduceBEq]; rfl, ?_⟩
    rw [← rows_snoc]
    exact Own.app _ _ _
  · rintro st h ⟨v, s3, how⟩
    simp (disch := first | (simp only [go_sem, gb0, eq_self]; done) | omega | (simp only [gl1, gl2]; omega)) only [go_sem, ↓reduceIte, Nat.reduceEqDiff, Nat.reduceAdd, Nat.reduceMul, Nat.reduceSub, Int.reduceToNat, Nat.reduceBEq, s3]
    exact export_Own (f := e1 LI) 22 how
end Go.Proofs.Ytcdpkgmkckfonaa

set_option linter.unusedVariables false
set_option linter.unusedSimpArgs false
set_option maxRecDepth 10000
namespace Go.Proofs.Ytcdpkgmkckfonaa
open Go Go.Am

variable {h h' : Hp} {K : AV → Hp → Prop}

/-- A pure equilibrium. -/
def pureB (a b : List (List Int)) (m i j : Nat) : Bool := decide (nth (nth b i) j = maxL (nth b i)) && decide (nth (nth a i) j = maxL (colL a j m))
def pRow (a b : List (List Int)) (m i j : Nat) : List (Int × Int) := ((List.range j).filter (pureB a b m i)).map fun j : Nat => ((i : Int), (j : Int))
def pAll (a b : List (List Int)) (m n i : Nat) : List (Int × Int) := (List.range i).flatMap fun i => pRow a b m i n
theorem pRow_yes {a b : List (List Int)} {m i j : Nat} (h : pureB a b m i j = true) : pRow a b m i (j + 1) = pRow a b m i j ++ [((i : Int), (j : Int))] := by
  unfold pRow
  rw [List.range_succ, List.filter_append, List.map_append]
  simp [h]
theorem pRow_no {a b : List (List Int)} {m i j : Nat} (h : pureB a b m i j = false) : pRow a b m i (j + 1) = pRow a b m i j := by
  unfold pRow
  rw [List.range_succ, List.filter_append, List.map_append]
  simp [h]
theorem pAll_succ (a b : List (List Int)) (m n i : Nat) : pAll a b m n (i + 1) = pAll a b m n i ++ pRow a b m i n := by
  unfold pAll
  rw [List.range_succ, List.flatMap_append]; simp
theorem pRow_len (a b : List (List Int)) (m i j : Nat) : (pRow a b m i j).length ≤ j := by
  unfold pRow
  rw [List.length_map]
  exact Nat.le_trans (List.length_filter_le _ _) (by simp)
theorem pAll_len (a b : List (List Int)) (m n : Nat) : ∀ i, (pAll a b m n i).length ≤ i * n
  | 0 => by simp [pAll]
  | i + 1 => by
    have h1 := pAll_len a b m n i
    have h2 := pRow_len a b m i n
    rw [pAll_succ, List.length_append, Nat.add_mul]; omega
def purL (a b : List (List Int)) : List (Int × Int) := if gamB a b then pAll a b a.length (nth a 0).length a.length else []
def purE (a b : List (List Int)) : Int := if gamB a b then 0 else 2
theorem f25_con (a b : List (List Int)) (ha : okLL a) (hb : okLL b) : Con Try.prog cfg 25 [LLI a, LLI b] (.tup [LP (purL a b), I (purE a b)]) := by
  have ml : maxLen = 9223372036854775807 := by decide
  have kk52 := fun h h' K => k52 (h := h) (h' := h') (K := K) a b ha hb
  cases c1 : gamB a b with
  | false =>
    have e1 : purL a b = [] := by rw [purL, c1]; rfl
    have e2 : purE a b = 2 := by rw [purE, c1]; rfl
    rw [e1, e2]
    refine Con_intro Try.func25 rfl ok25 (Nat.le_of_ble_eq_true rfl) rfl ?_
    simp only [Try.f25, Option.getD_some, initSt2]
    simp (disch := first | (simp only [go_sem, gb0, eq_self]; done) | omega | (simp only [gl1, gl2]; omega)) only [go_sem, ↓reduceIte, Nat.reduceEqDiff, Nat.reduceAdd, Nat.reduceMul, Nat.reduceSub, Int.reduceToNat, Nat.reduceBEq, kk52, c1]
    rfl
  | true =>
  obtain ⟨Ta, Tb'⟩ := gamB_Tb c1
  have e1 : purL a b = pAll a b a.length (nth a 0).length a.length := by rw [purL, c1]; rfl
  have e2 : purE a b = 0 := by rw [purE, c1]; rfl
  rw [e1, e2]
  have hm1 := Ta.m1
  have hm4 := Ta.m4
  have hn1 := Ta.n1
  have hn4 := Ta.n4
  have hla : a.length = a.length := rfl
  generalize hm : a.length = m at *
  generalize hn : (nth a 0).length = n at *
  have hlb := Tb'.len
  have kk53 := fun h h' K => k53 (h := h) (h' := h') (K := K) Ta
  have Tt := turnL_Tb Ta
  have htn : ∀ j, j < n → nth (turnL a m n) j = colL a j m := fun j hj => nth_map_range _ _ _ hj
  have htl := Tt.len
  have htr := Tt.row
  refine Con_intro Try.func25 rfl ok25 (Nat.le_of_ble_eq_true rfl) rfl ?_
  simp only [Try.f25, Option.getD_some, initSt2]
  simp (disch := first | (simp only [go_sem, gb0, eq_self]; done) | omega | (simp only [gl1, gl2]; omega)) only [go_sem, ↓reduceIte, Nat.reduceEqDiff, Nat.reduceAdd, Nat.reduceMul, Nat.reduceSub, Int.reduceToNat, Nat.reduceBEq, kk52, c1, kk53, hlb]
  generalize turnL a m n = t at *
  refine WP_for 20 m (fun i st h => st 0 = LLI a ∧ st 7 = LLI t ∧ st 18 = LLI b ∧ st 19 = I m ∧ ∃ v, st 6 = v ∧ Go.Am.Own eP 2 h v (pAll a b m n i)) (by simp (disch := first | (simp only [go_sem, gb0, eq_self]; done) | omega | (simp only [gl1, gl2]; omega)) only [go_sem, ↓reduceIte, Nat.reduceEqDiff, Nat.reduceAdd, Nat.reduceMul, Nat.reduceSub, Int.reduceToNat, Nat.reduceBEq]) ⟨by simp (disch := first | (simp only [go_sem, gb0, eq_self]; done) | omega | (simp only [gl1, gl2]; omega)) only [go_sem, ↓reduceIte, Nat.reduceEqDiff, Nat.reduceAdd, Nat.reduceMul, Nat.reduceSub, Int.reduceToNat, Nat.reduceBEq, hlb], by simp (disch := first | (simp only [go_sem, gb0, eq_self]; done) | omega | (simp only [gl1, gl2]; omega)) only [go_sem, ↓reduceIte, Nat.reduceEqDiff, Nat.reduceAdd, Nat.reduceMul, Nat.reduceSub, Int.reduceToNat, Nat.reduceBEq, hlb], by simp (disch := first | (simp only [go_sem, gb0, eq_self]; done) | omega | (simp only [gl1, gl2]; omega)) only [go_sem, ↓reduceIte, Nat.reduceEqDiff, Nat.reduceAdd, Nat.reduceMul, Nat.reduceSub, Int.reduceToNat, Nat.reduceBEq, hlb], by simp (disch := first | (simp only [go_sem, gb0, eq_self]; done) | omega | (simp only [gl1, gl2]; omega)) only [go_sem, ↓reduceIte, Nat.reduceEqDiff, Nat.reduceAdd, Nat.reduceMul, Nat.reduceSub, Int.reduceToNat, Nat.reduceBEq, hlb], .nil, by simp (disch := first | (simp only [go_sem, gb0, eq_self]; done) | omega | (simp only [gl1, gl2]; omega)) only [go_sem, ↓reduceIte, Nat.reduceEqDiff, Nat.reduceAdd, Nat.reduceMul, Nat.reduceSub, Int.reduceToNat, Nat.reduceBEq], .inl ⟨rfl, rfl⟩⟩ ?_
  rintro i st h hi s20 ⟨s0, s7, s18, s19, v, s6, ov⟩
  by_cases hlt : i < m
  case neg =>
    have hie : i = m := by omega
    subst hie
    obtain ⟨g1, z1, n1, b1⟩ := sealA_Own ov
    simp (disch := first | (simp only [go_sem, gb0, eq_self]; done) | omega | (simp only [gl1, gl2]; omega)) only [go_sem, ↓reduceIte, Nat.reduceEqDiff, Nat.reduceAdd, Nat.reduceMul, Nat.reduceSub, Int.reduceToNat, Nat.reduceBEq, s0, s7, s18, s19, s6, s20, hlt, z1]
  have hri := Tb'.row i hlt
  have hib : i < b.length := by omega
  simp (disch := first | (simp only [go_sem, gb0, eq_self]; done) | omega | (simp only [gl1, gl2]; omega)) only [go_sem, ↓reduceIte, Nat.reduceEqDiff, Nat.reduceAdd, Nat.reduceMul, Nat.reduceSub, Int.reduceToNat, Nat.reduceBEq, s0, s7, s18, s19, s6, s20, hlt, hlb, hri, hib]
  refine WP_for 27 n (fun j st h => st 0 = LLI a ∧ st 7 = LLI t ∧ st 18 = LLI b ∧ st 19 = I m ∧ st 8 = I i ∧ st 9 = LI (nth b i) ∧ st 20 = I i ∧ st 25 = LI (nth b i) ∧ st 26 = I n ∧ ∃ v, st 6 = v ∧ Go.Am.Own eP 2 h v (pAll a b m n i ++ pRow a b m i j)) (by simp (disch := first | (simp only [go_sem, gb0, eq_self]; done) | omega | (simp only [gl1, gl2]; omega)) only [go_sem, ↓reduceIte, Nat.reduceEqDiff, Nat.reduceAdd, Nat.reduceMul, Nat.reduceSub, Int.reduceToNat, Nat.reduceBEq]) ⟨by simp (disch := first | (simp only [go_sem, gb0, eq_self]; done) | omega | (simp only [gl1, gl2]; omega)) only [go_sem, ↓reduceIte, Nat.reduceEqDiff, Nat.reduceAdd, Nat.reduceMul, Nat.reduceSub, Int.reduceToNat, Nat.reduceBEq, s0, s7, s18, s19, s20, hri], by simp (disch := first | (simp only [go_sem, gb0, eq_self]; done) | omega | (simp only [gl1, gl2]; omega)) only [go_sem, ↓reduceIte, Nat.reduceEqDiff, Nat.reduceAdd, Nat.reduceMul, Nat.reduceSub, Int.reduceToNat, Nat.reduceBEq, s0, s7, s18, s19, s20, hri], by simp (disch := first | (simp only [go_sem, gb0, eq_self]; done) | omega | (simp only [gl1, gl2]; omega)) only [go_sem, ↓reduceIte, Nat.reduceEqDiff, Nat.reduceAdd, Nat.reduceMul, Nat.reduceSub, Int.reduceToNat, Nat.reduceBEq, s0, s7, s18, s19, s20, hri], by simp (disch := first | (simp only [go_sem, gb0, eq_self]; done) | omega | (simp only [gl1, gl2]; omega)) only [go_sem, ↓reduceIte, Nat.reduceEqDiff, Nat.reduceAdd, Nat.reduceMul, Nat.reduceSub, Int.reduceToNat, Nat.reduceBEq, s0, s7, s18, s19, s20, hri], by simp (disch := first | (simp only [go_sem, gb0, eq_self]; done) | omega | (simp only [gl1, gl2]; omega)) only [go_sem, ↓reduceIte, Nat.reduceEqDiff, Nat.reduceAdd, Nat.reduceMul, Nat.reduceSub, Int.reduceToNat, Nat.reduceBEq, s0, s7, s18, s19, s20, hri], by simp (disch := first | (simp only [go_sem, gb0, eq_self]; done) | omega | (simp only [gl1, gl2]; omega)) only [go_sem, ↓reduceIte, Nat.reduceEqDiff, Nat.reduceAdd, Nat.reduceMul, Nat.reduceSub, Int.reduceToNat, Nat.reduceBEq, s0, s7, s18, s19, s20, hri], by simp (disch := first | (simp only [go_sem, gb0, eq_self]; done) | omega | (simp only [gl1, gl2]; omega)) only [go_sem, ↓reduceIte, Nat.reduceEqDiff, Nat.reduceAdd, Nat.reduceMul, Nat.reduceSub, Int.reduceToNat, Nat.reduceBEq, s0, s7, s18, s19, s20, hri], by simp (disch := first | (simp only [go_sem, gb0, eq_self]; done) | omega | (simp only [gl1, gl2]; omega)) only [go_sem, ↓reduceIte, Nat.reduceEqDiff, Nat.reduceAdd, Nat.reduceMul, Nat.reduceSub, Int.reduceToNat, Nat.reduceBEq, s0, s7, s18, s19, s20, hri], by simp (disch := first | (simp only [go_sem, gb0, eq_self]; done) | omega | (simp only [gl1, gl2]; omega)) only [go_sem, ↓reduceIte, Nat.reduceEqDiff, Nat.reduceAdd, Nat.reduceMul, Nat.reduceSub, Int.reduceToNat, Nat.reduceBEq, s0, s7, s18, s19, s20, hri], v, by simp (disch := first | (simp only [go_sem, gb0, eq_self]; done) | omega | (simp only [gl1, gl2]; omega)) only [go_sem, ↓reduceIte, Nat.reduceEqDiff, Nat.reduceAdd, Nat.reduceMul, Nat.reduceSub, Int.reduceToNat, Nat.reduceBEq, s6], by have e : pRow a b m i 0 = [] := rfl; rw [e, List.append_nil]; exact ov⟩ ?_
  clear s0 s7 s18 s19 s20 s6 ov v
  rintro j st h hj s27 ⟨s0, s7, s18, s19, s8, s9, s20, s25, s26, v, s6, ov⟩
  by_cases hjl : j < n
  case neg =>
    have hje : j = n := by omega
    subst hje
    simp (disch := first | (simp only [go_sem, gb0, eq_self]; done) | omega | (simp only [gl1, gl2]; omega)) only [go_sem, ↓reduceIte, Nat.reduceEqDiff, Nat.reduceAdd, Nat.reduceMul, Nat.reduceSub, Int.reduceToNat, Nat.reduceBEq, s0, s7, s18, s19, s8, s9, s20, s25, s26, s6, s27, hlb, hri, hjl]
    rw [ForK_normal]
    refine ⟨hlt, by simp (disch := first | (simp only [go_sem, gb0, eq_self]; done) | omega | (simp only [gl1, gl2]; omega)) only [go_sem, ↓reduceIte, Nat.reduceEqDiff, Nat.reduceAdd, Nat.reduceMul, Nat.reduceSub, Int.reduceToNat, Nat.reduceBEq, s20], by simp (disch := first | (simp only [go_sem, gb0, eq_self]; done) | omega | (simp only [gl1, gl2]; omega)) only [go_sem, ↓reduceIte, Nat.reduceEqDiff, Nat.reduceAdd, Nat.reduceMul, Nat.reduceSub, Int.reduceToNat, Nat.reduceBEq, s0], by simp (disch := first | (simp only [go_sem, gb0, eq_self]; done) | omega | (simp only [gl1, gl2]; omega)) only [go_sem, ↓reduceIte, Nat.reduceEqDiff, Nat.reduceAdd, Nat.reduceMul, Nat.reduceSub, Int.reduceToNat, Nat.reduceBEq, s7], by simp (disch := first | (simp only [go_sem, gb0, eq_self]; done) | omega | (simp only [gl1, gl2]; omega)) only [go_sem, ↓reduceIte, Nat.reduceEqDiff, Nat.reduceAdd, Nat.reduceMul, Nat.reduceSub, Int.reduceToNat, Nat.reduceBEq, s18], by simp (disch := first | (simp only [go_sem, gb0, eq_self]; done) | omega | (simp only [gl1, gl2]; omega)) only [go_sem, ↓reduceIte, Nat.reduceEqDiff, Nat.reduceAdd, Nat.reduceMul, Nat.reduceSub, Int.reduceToNat, Nat.reduceBEq, s19], v, by simp (disch := first | (simp only [go_sem, gb0, eq_self]; done) | omega | (simp only [gl1, gl2]; omega)) only [go_sem, ↓reduceIte, Nat.reduceEqDiff, Nat.reduceAdd, Nat.reduceMul, Nat.reduceSub, Int.reduceToNat, Nat.reduceBEq, s6], by rw [pAll_succ]; exact ov⟩
  have hjr : j < (nth b i).length := by omega
  have hra := Ta.row i hlt
  have hja : j < (nth a i).length := by omega
  have hia : i < a.length := by omega
  have hjt : j < t.length := by omega
  have k54b := fun h h' K => k54 (h := h) (h' := h') (K := K) (nth b i) (by omega) (by omega)
  have k54c := fun h h' K => k54 (h := h) (h' := h') (K := K) (colL a j m) (by rw [colL_len]; omega) (by rw [colL_len]; omega)
  have htj := htn j hjl
  by_cases c2 : nth (nth b i) j = maxL (nth b i)
  case neg =>
    have hp : pureB a b m i j = false := by rw [pureB, decide_eq_false c2]; rfl
    simp (disch := first | (simp only [go_sem, gb0, eq_self]; done) | omega | (simp only [gl1, gl2]; omega)) only [go_sem, ↓reduceIte, Nat.reduceEqDiff, Nat.reduceAdd, Nat.reduceMul, Nat.reduceSub, Int.reduceToNat, Nat.reduceBEq, s0, s7, s18, s19, s8, s9, s20, s25, s26, s6, s27, hlb, hri, hjl, hjr, hib, k54b, c2]
    rw [ForK_normal]
    exact ⟨hjl, by simp (disch := first | (simp only [go_sem, gb0, eq_self]; done) | omega | (simp only [gl1, gl2]; omega)) only [go_sem, ↓reduceIte, Nat.reduceEqDiff, Nat.reduceAdd, Nat.reduceMul, Nat.reduceSub, Int.reduceToNat, Nat.reduceBEq, s27], by simp (disch := first | (simp only [go_sem, gb0, eq_self]; done) | omega | (simp only [gl1, gl2]; omega)) only [go_sem, ↓reduceIte, Nat.reduceEqDiff, Nat.reduceAdd, Nat.reduceMul, Nat.reduceSub, Int.reduceToNat, Nat.reduceBEq, s0], by simp (disch := first | (simp only [go_sem, gb0, eq_self]; done) | omega | (simp only [gl1, gl2]; omega)) only [go_sem, ↓reduceIte, Nat.reduceEqDiff, Nat.reduceAdd, Nat.reduceMul, Nat.reduceSub, Int.reduceToNat, Nat.reduceBEq, s7], by simp (disch := first | (simp only [go_sem, gb0, eq_self]; done) | omega | (simp only [gl1, gl2]; omega)) only [go_sem, ↓reduceIte, Nat.reduceEqDiff, Nat.reduceAdd, Nat.reduceMul, Nat.reduceSub, Int.reduceToNat, Nat.reduceBEq, s18], by simp (disch := first | (simp only [go_sem, gb0, eq_self]; done) | omega | (simp only [gl1, gl2]; omega)) only [go_sem, ↓reduceIte, Nat.reduceEqDiff, Nat.reduceAdd, Nat.reduceMul, Nat.reduceSub, Int.reduceToNat, Nat.reduceBEq, s19], by simp (disch := first | (simp only [go_sem, gb0, eq_self]; done) | omega | (simp only [gl1, gl2]; omega)) only [go_sem, ↓reduceIte, Nat.reduceEqDiff, Nat.reduceAdd, Nat.reduceMul, Nat.reduceSub, Int.reduceToNat, Nat.reduceBEq, s8], by simp (disch := first | (simp only [go_sem, gb0, eq_self]; done) | omega | (simp only [gl1, gl2]; omega)) only [go_sem, ↓reduceIte, Nat.reduceEqDiff, Nat.reduceAdd, Nat.reduceMul, Nat.reduceSub, Int.reduceToNat, Nat.reduceBEq, s9], by simp (disch := first | (simp only [go_sem, gb0, eq_self]; done) | omega | (simp only [gl1, gl2]; omega)) only [go_sem, ↓reduceIte, Nat.reduceEqDiff, Nat.reduceAdd, Nat.reduceMul, Nat.reduceSub, Int.reduceToNat, Nat.reduceBEq, s20], by simp (disch := first | (simp only [go_sem, gb0, eq_self]; done) | omega | (simp only [gl1, gl2]; omega)) only [go_sem, ↓reduceIte, Nat.reduceEqDiff, Nat.reduceAdd, Nat.reduceMul, Nat.reduceSub, Int.reduceToNat, Nat.reduceBEq, s25], by simp (disch := first | (simp only [go_sem, gb0, eq_self]; done) | omega | (simp only [gl1, gl2]; omega)) only [go_sem, ↓reduceIte, Nat.reduceEqDiff, Nat.reduceAdd, Nat.reduceMul, Nat.reduceSub, Int.reduceToNat, Nat.reduceBEq, s26], v, by simp (disch := first | (simp only [go_sem, gb0, eq_self]; done) | omega | (simp only [gl1, gl2]; omega)) only [go_sem, ↓reduceIte, Nat.reduceEqDiff, Nat.reduceAdd, Nat.reduceMul, Nat.reduceSub, Int.reduceToNat, Nat.reduceBEq, s6], by rw [pRow_no hp]; exact ov⟩
  by_cases c3 : nth (nth a i) j = maxL (colL a j m)
  case neg =>
    have hp : pureB a b m i j = false := by rw [pureB, decide_eq_false c3, Bool.and_false]
    simp (disch := first | (simp only [go_sem, gb0, eq_self]; done) | omega | (simp only [gl1, gl2]; omega)) only [go_sem, ↓reduceIte, Nat.reduceEqDiff, Nat.reduceAdd, Nat.reduceMul, Nat.reduceSub, Int.reduceToNat, Nat.reduceBEq, s0, s7, s18, s19, s8, s9, s20, s25, s26, s6, s27, hlb, hri, hjl, hjr, hib, k54b, c2, eq_self, decide_true, hia, hm, hlt, hra, hja, htl, hjt, htj, k54c, c3]
    rw [ForK_normal]
    exact ⟨hjl, by simp (disch := first | (simp only [go_sem, gb0, eq_self]; done) | omega | (simp only [gl1, gl2]; omega)) only [go_sem, ↓reduceIte, Nat.reduceEqDiff, Nat.reduceAdd, Nat.reduceMul, Nat.reduceSub, Int.reduceToNat, Nat.reduceBEq, s27], by simp (disch := first | (simp only [go_sem, gb0, eq_self]; done) | omega | (simp only [gl1, gl2]; omega)) only [go_sem, ↓reduceIte, Nat.reduceEqDiff, Nat.reduceAdd, Nat.reduceMul, Nat.reduceSub, Int.reduceToNat, Nat.reduceBEq, s0], by simp (disch := first | (simp only [go_sem, gb0, eq_self]; done) | omega | (simp only [gl1, gl2]; omega)) only [go_sem, ↓reduceIte, Nat.reduceEqDiff, Nat.reduceAdd, Nat.reduceMul, Nat.reduceSub, Int.reduceToNat, Nat.reduceBEq, s7], by simp (disch := first | (simp only [go_sem, gb0, eq_self]; done) | omega | (simp only [gl1, gl2]; omega)) only [go_sem, ↓reduceIte, Nat.reduceEqDiff, Nat.reduceAdd, Nat.reduceMul, Nat.reduceSub, Int.reduceToNat, Nat.reduceBEq, s18], by simp (disch := first | (simp only [go_sem, gb0, eq_self]; done) | omega | (simp only [gl1, gl2]; omega)) only [go_sem, ↓reduceIte, Nat.reduceEqDiff, Nat.reduceAdd, Nat.reduceMul, Nat.reduceSub, Int.reduceToNat, Nat.reduceBEq, s19], by simp (disch := first | (simp only [go_sem, gb0, eq_self]; done) | omega | (simp only [gl1, gl2]; omega)) only [go_sem, ↓reduceIte, Nat.reduceEqDiff, Nat.reduceAdd, Nat.reduceMul, Nat.reduceSub, Int.reduceToNat, Nat.reduceBEq, s8], by simp (disch := first | (simp only [go_sem, gb0, eq_self]; done) | omega | (simp only [gl1, gl2]; omega)) only [go_sem, ↓reduceIte, Nat.reduceEqDiff, Nat.reduceAdd, Nat.reduceMul, Nat.reduceSub, Int.reduceToNat, Nat.reduceBEq, s9], by simp (disch := first | (simp only [go_sem, gb0, eq_self]; done) | omega | (simp only [gl1, gl2]; omega)) only [go_sem, ↓reduceIte, Nat.reduceEqDiff, Nat.reduceAdd, Nat.reduceMul, Nat.reduceSub, Int.reduceToNat, Nat.reduceBEq, s20], by simp (disch := first | (simp only [go_sem, gb0, eq_self]; done) | omega | (simp only [gl1, gl2]; omega)) only [go_sem, ↓reduceIte, Nat.reduceEqDiff, Nat.reduceAdd, Nat.reduceMul, Nat.reduceSub, Int.reduceToNat, Nat.reduceBEq, s25], by simp (disch := first | (simp only [go_sem, gb0, eq_self]; done) | omega | (simp only [gl1, gl2]; omega)) only [go_sem, ↓reduceIte, Nat.reduceEqDiff, Nat.reduceAdd, Nat.reduceMul, Nat.reduceSub, Int.reduceToNat, Nat.reduceBEq, s26], v, by simp (disch := first | (simp only [go_sem, gb0, eq_self]; done) | omega | (simp only [gl1, gl2]; omega)) only [go_sem, ↓reduceIte, Nat.reduceEqDiff, Nat.reduceAdd, Nat.reduceMul, Nat.reduceSub, Int.reduceToNat, Nat.reduceBEq, s6], by rw [pRow_no hp]; exact ov⟩
  have hp : pureB a b m i j = true := by rw [pureB, decide_eq_true c2, decide_eq_true c3]; rfl
  have hl1 := pAll_len a b m n i
  have hl2 := pRow_len a b m i j
  have hl3 : i * n ≤ 4 * 4 := Nat.mul_le_mul (by omega) hn4
  have hbd : buildB Try.prog (some (TypeDesc.array 2 3)) (some (.agg [I 0, I 0])) [(0, I i), (1, I j)] = some (.agg [I i, I j]) := by kernel_rfl
  have hbs := fun h : Hp => bsB_pair (P := Try.prog) (h := h) 55 i j 0 0 isz55 izero55
  have happ := app_pair (P := Try.prog) ov 55 16 (.agg [I 0, I 0]) i j isz55 ibytes55 izero55 rfl (by rw [List.length_append]; omega) (by rw [List.length_append]; omega)
  simp (disch := first | (simp only [go_sem, gb0, eq_self]; done) | omega | (simp only [gl1, gl2]; omega)) only [go_sem, ↓reduceIte, Nat.reduceEqDiff, Nat.reduceAdd, Nat.reduceMul, Nat.reduceSub, Int.reduceToNat, Nat.reduceBEq, s0, s7, s18, s19, s8, s9, s20, s25, s26, s6, s27, hlb, hri, hjl, hjr, hib, k54b, c2, eq_self, decide_true, hia, hm, hlt, hra, hja, htl, hjt, htj, k54c, c3, hbd, hbs, happ]
  rw [ForK_normal]
  refine ⟨hjl, by simp (disch := first | (simp only [go_sem, gb0, eq_self]; done) | omega | (simp only [gl1, gl2]; omega)) only [go_sem, ↓reduceIte, Nat.reduceEqDiff, Nat.reduceAdd, Nat.reduceMul, Nat.reduceSub, Int.reduceToNat, Nat.reduceBEq, s27], by simp (disch := first | (simp only [go_sem, gb0, eq_self]; done) | omega | (simp only [gl1, gl2]; omega)) only [go_sem, ↓reduceIte, Nat.reduceEqDiff, Nat.reduceAdd, Nat.reduceMul, Nat.reduceSub, Int.reduceToNat, Nat.reduceBEq, s0], by simp (disch := first | (simp only [go_sem, gb0, eq_self]; done) | omega | (simp only [gl1, gl2]; omega)) only [go_sem, ↓reduceIte, Nat.reduceEqDiff, Nat.reduceAdd, Nat.reduceMul, Nat.reduceSub, Int.reduceToNat, Nat.reduceBEq, s7], by simp (disch := first | (simp only [go_sem, gb0, eq_self]; done) | omega | (simp only [gl1, gl2]; omega)) only [go_sem, ↓reduceIte, Nat.reduceEqDiff, Nat.reduceAdd, Nat.reduceMul, Nat.reduceSub, Int.reduceToNat, Nat.reduceBEq, s18], by simp (disch := first | (simp only [go_sem, gb0, eq_self]; done) | omega | (simp only [gl1, gl2]; omega)) only [go_sem, ↓reduceIte, Nat.reduceEqDiff, Nat.reduceAdd, Nat.reduceMul, Nat.reduceSub, Int.reduceToNat, Nat.reduceBEq, s19], by simp (disch := first | (simp only [go_sem, gb0, eq_self]; done) | omega | (simp only [gl1, gl2]; omega)) only [go_sem, ↓reduceIte, Nat.reduceEqDiff, Nat.reduceAdd, Nat.reduceMul, Nat.reduceSub, Int.reduceToNat, Nat.reduceBEq, s8], by simp (disch := first | (simp only [go_sem, gb0, eq_self]; done) | omega | (simp only [gl1, gl2]; omega)) only [go_sem, ↓reduceIte, Nat.reduceEqDiff, Nat.reduceAdd, Nat.reduceMul, Nat.reduceSub, Int.reduceToNat, Nat.reduceBEq, s9], by simp (disch := first | (simp only [go_sem, gb0, eq_self]; done) | omega | (simp only [gl1, gl2]; omega)) only [go_sem, ↓reduceIte, Nat.reduceEqDiff, Nat.reduceAdd, Nat.reduceMul, Nat.reduceSub, Int.reduceToNat, Nat.reduceBEq, s20], by simp (disch := first | (simp only [go_sem, gb0, eq_self]; done) | omega | (simp only [gl1, gl2]; omega)) only [go_sem, ↓reduceIte, Nat.reduceEqDiff, Nat.reduceAdd, Nat.reduceMul, Nat.reduceSub, Int.reduceToNat, Nat.reduceBEq, s25], by simp (disch := first | (simp only [go_sem, gb0, eq_self]; done) | omega | (simp only [gl1, gl2]; omega)) only [go_sem, ↓reduceIte, Nat.reduceEqDiff, Nat.reduceAdd, Nat.reduceMul, Nat.reduceSub, Int.reduceToNat, Nat.reduceBEq, s26], _, by simp (disch := first | (simp only [go_sem, gb0, eq_self]; done) | omega | (simp only [gl1, gl2]; omega)) only [go_sem, ↓reduceIte, Nat.reduceEqDiff, Nat.reduceAdd, Nat.reduceMul, Nat.reduceSub, Int.reduceToNat, Nat.reduceBEq]; rfl, ?_⟩
  rw [pRow_yes hp, ← List.append_assoc]; exact Own.app _ _ _
end Go.Proofs.Ytcdpkgmkckfonaa

set_option linter.unusedVariables false
set_option linter.unusedSimpArgs false
set_option maxRecDepth 10000
namespace Go.Proofs.Ytcdpkgmkckfonaa
open Go Go.Am

variable {h h' : Hp} {K : AV → Hp → Prop}

/-! ### One act alone -/
def uL (m i : Nat) : List Int := (List.replicate m 0).set i 1
theorem uL_len (m i : Nat) : (uL m i).length = m := by simp [uL]
theorem uL_nth {m i k : Nat} (hi : i < m) (hk : k < m) : nth (uL m i) k = if i = k then 1 else 0 := by
  rw [uL, nth_set _ _ _ _ (by simp; exact hi)]
  split
  · rfl
  · exact nth_replicate _ _ _ hk
theorem uL_Sh {m i : Nat} (hi : i < m) : Sh (uL m i) 1 m := by
  refine ⟨uL_len m i, fun k hk => ?_, fun k hk => ?_, by decide, by decide⟩ <;> rw [uL_nth hi hk] <;> split <;> decide
theorem sum_unit {n j : Nat} (x : Nat → Int) (hj : j < n) : ∀ c, c ≤ n → sumN (fun k => x k * nth (uL n j) k) c = if j < c then x j else 0
  | 0, _ => by simp [sumN]
  | c + 1, hc => by
    have e : sumN (fun k => x k * nth (uL n j) k) (c + 1) = sumN (fun k => x k * nth (uL n j) k) c + x c * nth (uL n j) c := rfl
    rw [e, sum_unit x hj c (by omega), uL_nth hj (by omega)]
    by_cases h1 : j < c
    · rw [if_pos h1, if_neg (by omega), if_pos (by omega)]; omega
    · rw [if_neg h1]
      by_cases h2 : j = c
      · subst h2; rw [if_pos rfl, if_pos (by omega)]; omega
      · rw [if_neg h2, if_neg (by omega)]; omega
theorem rowG_unit {a : List (List Int)} {n i j : Nat} (hj : j < n) : rowG a n (uL n j) i = nth (nth a i) j := by
  rw [rowG, sum_unit (fun k => nth (nth a i) k) hj n (Nat.le_refl _), if_pos hj]
theorem gainsL_unit {a : List (List Int)} {m n j : Nat} (hj : j < n) : gainsL a m n (uL n j) = colL a j m := by
  unfold gainsL colL
  exact List.map_congr_left fun i _ => rowG_unit hj
theorem bestB_unit {a : List (List Int)} {m n i j : Nat} (hi : i < m) (hj : j < n) : bestB a m n (uL m i) (uL n j) = decide (nth (nth a i) j = maxL (colL a j m)) := by
  have hc : nth (colL a j m) i = nth (nth a i) j := nth_map_range _ _ _ hi
  have hge := maxL_ge (l := colL a j m) (i := i) (by rw [colL_len]; exact hi)
  rw [hc] at hge
  rw [bestB, gainsL_unit hj, Bool.eq_iff_iff, List.all_eq_true, decide_eq_true_eq]
  constructor
  · intro h
    have := h i (List.mem_range.2 hi)
    rw [uL_nth hi hi, if_pos rfl, rowG_unit hj] at this
    simp at this
    omega
  · intro h k hk
    have hk := List.mem_range.1 hk
    rw [uL_nth hi hk]
    by_cases e : i = k
    · subst e
      rw [rowG_unit hj, decide_eq_false (show ¬ nth (nth a i) j < maxL (colL a j m) by omega), Bool.and_false]; rfl
    · rw [if_neg e]; rfl
theorem equB_unit {a b : List (List Int)} {m n i j : Nat} (Tb' : Tb b m n) (hi : i < m) (hj : j < n) : equB a b m n (uL m i) (uL n j) = pureB a b m i j := by
  rw [equB, bestB_unit hi hj, bestB_unit hj hi, turnL_nth hi hj]
  have : colL (turnL b m n) i n = nth b i := by
    refine list_ext_nth (by rw [colL_len, Tb'.row i hi]) fun k hk => ?_
    rw [colL_len] at hk
    rw [colL, nth_map_range _ _ _ hk, turnL_nth hi hk]
  rw [this, pureB, Bool.and_comm]

/-! ### The walk -/
open Classical in
noncomputable def extP (f : FuncId) (args : List AV) : Option AV :=
  if f = 28 then none else if h : ∃ r, Con Try.prog cfg f args r then some h.choose else none
noncomputable def cfgP : Cfg := { cfg with ext := extP, strict := fun a b => a == 8 && b == 10, late := fun a b => if a == 8 && b == 10 then [7] else [], wr := fun _ _ => [] }
@[go_sem] theorem cfgP_deep : cfgP.deep = false := by kernel_rfl
theorem hextP : ExtOk Try.prog cfgP := by
  intro f args r he
  have he : extP f args = some r := he
  unfold extP at he
  split at he
  · cases he
  · split at he
    · rename_i h
      cases he
      obtain ⟨k, hk⟩ := h.choose_spec
      exact ⟨(sound (fun _ _ _ h => by cases h) k).2.2.1 _ _ _ hk, fun ho => callP_pure (P := Try.prog) (cfg := cfg) (fun _ _ _ h => by cases h) rfl hk⟩
    · cases he
theorem liftP {f : FuncId} {args : List AV} {r : AV} (hb : (f == 28) = false) (hc : Con Try.prog cfg f args r) : Con Try.prog cfgP f args r := by
  refine ⟨1, ?_⟩
  have : extP f args = some r := by
    unfold extP
    have hex : ∃ r, Con Try.prog cfg f args r := ⟨r, hc⟩
    rw [if_neg (by simpa using hb), dif_pos hex]
    obtain ⟨k, hk⟩ := hex.choose_spec
    obtain ⟨k', hk'⟩ := hc
    rw [callP_det hk hk']
  show (match extP f args with | some r => some r | none => _) = _
  rw [this]
@[go_sem] theorem cfgP_strict (a b : Nat) : cfgP.strict a b = (a == 8 && b == 10) := rfl
@[go_sem] theorem cfgP_shared (f : Nat) : cfgP.shared f = cfg.shared f := rfl
@[go_sem] theorem cfgP_own (f : Nat) : cfgP.own f = cfg.own f := rfl
@[go_sem] theorem cfgP_kn (f : Nat) : cfgP.keepNil f = cfg.keepNil f := rfl
@[go_sem] theorem cfgP_wr (a b : Nat) : cfgP.wr a b = [] := rfl
theorem okP28 : funcOk cfgP Try.f28 (Try.f28.body.getD .skip) = true := by kernel_rfl
@[go_sem] theorem shr28 : cfg.shared 28 = false := by kernel_rfl
theorem f28_con {a b : List (List Int)} {m n : Nat} (T : Tb a m n) (T' : Tb b m n) : Con Try.prog cfgP 28 [LLI a, LLI b] (LP (pAll a b m n m)) := by
  have hm1 := T.m1
  have hm4 := T.m4
  have hn1 := T.n1
  have hn4 := T.n4
  have hl := T.len
  have hr0 := T.row 0 (by omega)
  have h0 : 0 < a.length := by omega
  refine Con_intro Try.func28 rfl okP28 (Nat.le_of_ble_eq_true rfl) rfl ?_
  simp only [Try.f28, Option.getD_some, initSt2]
  simp (disch := first | (simp only [go_sem, gb0, eq_self]; done) | omega | (simp only [gl1, gl2]; omega)) only [go_sem, ↓reduceIte, Nat.reduceEqDiff, Nat.reduceAdd, Nat.reduceMul, Nat.reduceSub, Int.reduceToNat, Nat.reduceBEq]
  refine WP_for 6 m (fun i st h => st 0 = LLI a ∧ st 1 = LLI b ∧ ∃ v, st 5 = v ∧ Go.Am.Own eP 2 h v (pAll a b m n i)) (by simp (disch := first | (simp only [go_sem, gb0, eq_self]; done) | omega | (simp only [gl1, gl2]; omega)) only [go_sem, ↓reduceIte, Nat.reduceEqDiff, Nat.reduceAdd, Nat.reduceMul, Nat.reduceSub, Int.reduceToNat, Nat.reduceBEq]) ⟨by simp (disch := first | (simp only [go_sem, gb0, eq_self]; done) | omega | (simp only [gl1, gl2]; omega)) only [go_sem, ↓reduceIte, Nat.reduceEqDiff, Nat.reduceAdd, Nat.reduceMul, Nat.reduceSub, Int.reduceToNat, Nat.reduceBEq], by simp (disch := first | (simp only [go_sem, gb0, eq_self]; done) | omega | (simp only [gl1, gl2]; omega)) only [go_sem, ↓reduceIte, Nat.reduceEqDiff, Nat.reduceAdd, Nat.reduceMul, Nat.reduceSub, Int.reduceToNat, Nat.reduceBEq], .nil, by simp (disch := first | (simp only [go_sem, gb0, eq_self]; done) | omega | (simp only [gl1, gl2]; omega)) only [go_sem, ↓reduceIte, Nat.reduceEqDiff, Nat.reduceAdd, Nat.reduceMul, Nat.reduceSub, Int.reduceToNat, Nat.reduceBEq], .inl ⟨rfl, rfl⟩⟩ ?_
  rintro i st h hi s6 ⟨s0, s1, v, s5, ov⟩
  by_cases hlt : i < m
  case neg =>
    have hie : i = m := by omega
    subst hie
    simp (disch := first | (simp only [go_sem, gb0, eq_self]; done) | omega | (simp only [gl1, gl2]; omega)) only [go_sem, ↓reduceIte, Nat.reduceEqDiff, Nat.reduceAdd, Nat.reduceMul, Nat.reduceSub, Int.reduceToNat, Nat.reduceBEq, s0, s1, s5, s6, hl, hlt]
    exact export_Own (f := eP) 48 ov
  simp (disch := first | (simp only [go_sem, gb0, eq_self]; done) | omega | (simp only [gl1, gl2]; omega)) only [go_sem, ↓reduceIte, Nat.reduceEqDiff, Nat.reduceAdd, Nat.reduceMul, Nat.reduceSub, Int.reduceToNat, Nat.reduceBEq, s0, s1, s5, s6, hl, hlt]
  refine WP_for 7 n (fun j st h => st 0 = LLI a ∧ st 1 = LLI b ∧ st 6 = I i ∧ ∃ v, st 5 = v ∧ Go.Am.Own eP 2 h v (pAll a b m n i ++ pRow a b m i j)) (by simp (disch := first | (simp only [go_sem, gb0, eq_self]; done) | omega | (simp only [gl1, gl2]; omega)) only [go_sem, ↓reduceIte, Nat.reduceEqDiff, Nat.reduceAdd, Nat.reduceMul, Nat.reduceSub, Int.reduceToNat, Nat.reduceBEq]) ⟨by simp (disch := first | (simp only [go_sem, gb0, eq_self]; done) | omega | (simp only [gl1, gl2]; omega)) only [go_sem, ↓reduceIte, Nat.reduceEqDiff, Nat.reduceAdd, Nat.reduceMul, Nat.reduceSub, Int.reduceToNat, Nat.reduceBEq, s0, s1, s6], by simp (disch := first | (simp only [go_sem, gb0, eq_self]; done) | omega | (simp only [gl1, gl2]; omega)) only [go_sem, ↓reduceIte, Nat.reduceEqDiff, Nat.reduceAdd, Nat.reduceMul, Nat.reduceSub, Int.reduceToNat, Nat.reduceBEq, s0, s1, s6], by simp (disch := first | (simp only [go_sem, gb0, eq_self]; done) | omega | (simp only [gl1, gl2]; omega)) only [go_sem, ↓reduceIte, Nat.reduceEqDiff, Nat.reduceAdd, Nat.reduceMul, Nat.reduceSub, Int.reduceToNat, Nat.reduceBEq, s0, s1, s6], v, by simp (disch := first | (simp only [go_sem, gb0, eq_self]; done) | omega | (simp only [gl1, gl2]; omega)) only [go_sem, ↓reduceIte, Nat.reduceEqDiff, Nat.reduceAdd, Nat.reduceMul, Nat.reduceSub, Int.reduceToNat, Nat.reduceBEq, s5], by have e : pRow a b m i 0 = [] := rfl; rw [e, List.append_nil]; exact ov⟩ ?_
  clear s0 s1 s6 s5 ov v
  rintro j st h hj s7 ⟨s0, s1, s6, v, s5, ov⟩
  by_cases hjl : j < n
  case neg =>
    have hje : j = n := by omega
    subst hje
    simp (disch := first | (simp only [go_sem, gb0, eq_self]; done) | omega | (simp only [gl1, gl2]; omega)) only [go_sem, ↓reduceIte, Nat.reduceEqDiff, Nat.reduceAdd, Nat.reduceMul, Nat.reduceSub, Int.reduceToNat, Nat.reduceBEq, s0, s1, s6, s5, s7, h0, hr0, hjl]
    rw [ForK_normal]
    refine ⟨hlt, by simp (disch := first | (simp only [go_sem, gb0, eq_self]; done) | omega | (simp only [gl1, gl2]; omega)) only [go_sem, ↓reduceIte, Nat.reduceEqDiff, Nat.reduceAdd, Nat.reduceMul, Nat.reduceSub, Int.reduceToNat, Nat.reduceBEq, s6], by simp (disch := first | (simp only [go_sem, gb0, eq_self]; done) | omega | (simp only [gl1, gl2]; omega)) only [go_sem, ↓reduceIte, Nat.reduceEqDiff, Nat.reduceAdd, Nat.reduceMul, Nat.reduceSub, Int.reduceToNat, Nat.reduceBEq, s0], by simp (disch := first | (simp only [go_sem, gb0, eq_self]; done) | omega | (simp only [gl1, gl2]; omega)) only [go_sem, ↓reduceIte, Nat.reduceEqDiff, Nat.reduceAdd, Nat.reduceMul, Nat.reduceSub, Int.reduceToNat, Nat.reduceBEq, s1], v, by simp (disch := first | (simp only [go_sem, gb0, eq_self]; done) | omega | (simp only [gl1, gl2]; omega)) only [go_sem, ↓reduceIte, Nat.reduceEqDiff, Nat.reduceAdd, Nat.reduceMul, Nat.reduceSub, Int.reduceToNat, Nat.reduceBEq, s5], by rw [pAll_succ]; exact ov⟩
  have kk22 := fun h h' K => ConW_num (h := h) (h' := h') (K := K) (liftP (by decide) (f22_con T T' (uL_Sh hlt) (uL_Sh hjl))) rfl
  rw [equB_unit T' hlt hjl] at kk22
  have hmkm := fun h => makeB_int (P := Try.prog) (h := h) 3 (m : Int) isz3 ibytes3 izero3 (by omega) (by omega)
  have hmkn := fun h => makeB_int (P := Try.prog) (h := h) 3 (n : Int) isz3 ibytes3 izero3 (by omega) (by omega)
  have ne0 : ¬ h.nx = h.nx + 1 := by omega
  have ne1 : ¬ h.nx + 1 = h.nx := by omega
  have him : (i : Int) < m := by omega
  have hjn : (j : Int) < n := by omega
  simp (maxSteps := 3000000) (disch := first | (simp only [go_sem, gb0, eq_self]; done) | omega | (simp only [gl1, gl2]; omega)) only [go_sem, ↓reduceIte, Nat.reduceEqDiff, Nat.reduceAdd, Nat.reduceMul, Nat.reduceSub, Int.reduceToNat, Nat.reduceBEq, s0, s1, s6, s5, s7, hl, h0, hr0, hjl, hmkm, hmkn, ne0, ne1, him, hjn, kk22, ↓stopY 9 false, List.filterMap_cons, List.filterMap_nil, List.contains_nil, List.contains_cons, Bool.not_false, Bool.not_true, Bool.or_true, Bool.true_or, List.nil_append, List.cons_append, Nat.reduceLT, decide_true, decide_false, List.drop_succ_cons]
  obtain ⟨B, hB⟩ : ∃ B, h.nx = B := ⟨_, rfl⟩
  rw [hB] at ne0 ne1
  refine WPy_go (fun st h => st 0 = LLI a ∧ st 1 = LLI b ∧ st 6 = I i ∧ st 7 = I j ∧ st 5 = v ∧ st 8 = .sl B 0 m 1 ∧ st 9 = .sl (B + 1) 0 n 1 ∧ h.nx = B + 1 + 1 ∧ h.bl B = some (.cells false true ((List.replicate m (0 : Int)).flatMap (e1 I))) ∧ h.bl (B + 1) = some (.cells false true ((List.replicate n (0 : Int)).flatMap (e1 I))) ∧ Go.Am.Own eP 2 h v (pAll a b m n i ++ pRow a b m i j) ∧ ∀ id o n' s, v = .sl id o n' s → id < B)
    ⟨by simp (disch := first | (simp only [go_sem, gb0, eq_self]; done) | omega | (simp only [gl1, gl2]; omega)) only [go_sem, ↓reduceIte, Nat.reduceEqDiff, Nat.reduceAdd, Nat.reduceMul, Nat.reduceSub, Int.reduceToNat, Nat.reduceBEq, s0, s1, s6], by simp (disch := first | (simp only [go_sem, gb0, eq_self]; done) | omega | (simp only [gl1, gl2]; omega)) only [go_sem, ↓reduceIte, Nat.reduceEqDiff, Nat.reduceAdd, Nat.reduceMul, Nat.reduceSub, Int.reduceToNat, Nat.reduceBEq, s0, s1, s6], by simp (disch := first | (simp only [go_sem, gb0, eq_self]; done) | omega | (simp only [gl1, gl2]; omega)) only [go_sem, ↓reduceIte, Nat.reduceEqDiff, Nat.reduceAdd, Nat.reduceMul, Nat.reduceSub, Int.reduceToNat, Nat.reduceBEq, s0, s1, s6], by simp (disch := first | (simp only [go_sem, gb0, eq_self]; done) | omega | (simp only [gl1, gl2]; omega)) only [go_sem, ↓reduceIte, Nat.reduceEqDiff, Nat.reduceAdd, Nat.reduceMul, Nat.reduceSub, Int.reduceToNat, Nat.reduceBEq, s7], by simp (disch := first | (simp only [go_sem, gb0, eq_self]; done) | omega | (simp only [gl1, gl2]; omega)) only [go_sem, ↓reduceIte, Nat.reduceEqDiff, Nat.reduceAdd, Nat.reduceMul, Nat.reduceSub, Int.reduceToNat, Nat.reduceBEq, s5], by simp (disch := first | (simp only [go_sem, gb0, eq_self]; done) | omega | (simp only [gl1, gl2]; omega)) only [go_sem, ↓reduceIte, Nat.reduceEqDiff, Nat.reduceAdd, Nat.reduceMul, Nat.reduceSub, Int.reduceToNat, Nat.reduceBEq, hB], by simp (disch := first | (simp only [go_sem, gb0, eq_self]; done) | omega | (simp only [gl1, gl2]; omega)) only [go_sem, ↓reduceIte, Nat.reduceEqDiff, Nat.reduceAdd, Nat.reduceMul, Nat.reduceSub, Int.reduceToNat, Nat.reduceBEq, hB], by simp (disch := first | (simp only [go_sem, gb0, eq_self]; done) | omega | (simp only [gl1, gl2]; omega)) only [go_sem, ↓reduceIte, Nat.reduceEqDiff, Nat.reduceAdd, Nat.reduceMul, Nat.reduceSub, Int.reduceToNat, Nat.reduceBEq, hB], by simp (disch := first | (simp only [go_sem, gb0, eq_self]; done) | omega | (simp only [gl1, gl2]; omega)) only [go_sem, ↓reduceIte, Nat.reduceEqDiff, Nat.reduceAdd, Nat.reduceMul, Nat.reduceSub, Int.reduceToNat, Nat.reduceBEq, hB, ne0], by simp (disch := first | (simp only [go_sem, gb0, eq_self]; done) | omega | (simp only [gl1, gl2]; omega)) only [go_sem, ↓reduceIte, Nat.reduceEqDiff, Nat.reduceAdd, Nat.reduceMul, Nat.reduceSub, Int.reduceToNat, Nat.reduceBEq, hB], ?_, ?_⟩ ?_
  · exact ov.mono (by simp only [alloc_nx]; omega) fun id hid => by rw [alloc_bl, if_neg (by simp only [alloc_nx]; omega), alloc_bl, if_neg (by omega)]
  · rintro id o n' s rfl
    rcases ov with ⟨q, _⟩ | ⟨id', q, h1, _⟩
    · cases q
    · cases q; omega
  clear s0 s1 s6 s7 s5 ov hB hmkm hmkn
  rintro st h ⟨s0, s1, s6, s7, s5, s8, s9, hnx, b0, b1, ov, hvB⟩
  have hsx : ∀ g : Hp, storeC g B i 1 (some (.cells false true ((List.replicate m (0 : Int)).flatMap (e1 I)))) [I 1] = some (.skp, g.put B (some (.cells false true ((uL m i).flatMap (e1 I))))) := fun g => by
    rw [storeC_one B i true _ (I 1) rfl (by rw [flat_len]; simp; omega), set_flat]; rfl
  have hsy : ∀ g : Hp, storeC g (B + 1) j 1 (some (.cells false true ((List.replicate n (0 : Int)).flatMap (e1 I)))) [I 1] = some (.skp, g.put (B + 1) (some (.cells false true ((uL n j).flatMap (e1 I))))) := fun g => by
    rw [storeC_one (B + 1) j true _ (I 1) rfl (by rw [flat_len]; simp; omega), set_flat]; rfl
  have hlm : (uL m i).length = m := uL_len m i
  have hln : (uL n j).length = n := uL_len n j
  have hl1 := pAll_len a b m n i
  have hl2 := pRow_len a b m i j
  have hl3 : i * n ≤ 4 * 4 := Nat.mul_le_mul (by omega) hn4
  have hsm : ∀ g : Hp, g.bl B = some (.cells false true ((uL m i).flatMap (e1 I))) → sealA g (.sl B 0 m 1) = some (LI (uL m i), g.put B (some (.cells true true ((uL m i).flatMap (e1 I))))) := fun g hg => by
    have := sealSl_own (h := g) (f := e1 I) B _ false true (uL m i) rfl
    rw [sealA_sl, hg]
    rw [hlm] at this; exact this
  have hsn : ∀ g : Hp, g.bl (B + 1) = some (.cells false true ((uL n j).flatMap (e1 I))) → sealA g (.sl (B + 1) 0 n 1) = some (LI (uL n j), g.put (B + 1) (some (.cells true true ((uL n j).flatMap (e1 I))))) := fun g hg => by
    have := sealSl_own (h := g) (f := e1 I) (B + 1) _ false true (uL n j) rfl
    rw [sealA_sl, hg]
    rw [hln] at this; exact this
  simp (disch := first | (simp only [go_sem, gb0, eq_self]; done) | omega | (simp only [gl1, gl2]; omega)) only [go_sem, ↓reduceIte, Nat.reduceEqDiff, Nat.reduceAdd, Nat.reduceMul, Nat.reduceSub, Int.reduceToNat, Nat.reduceBEq, s0, s1, s6, s5, s7, s8, s9, hnx, b0, b1, ne0, ne1, hlt, hjl, him, hjn, hsx, hsy, ↓stopY 11 false]
  refine WPy_go (fun st h => st 0 = LLI a ∧ st 1 = LLI b ∧ st 6 = I i ∧ st 7 = I j ∧ st 5 = v ∧ st 8 = .sl B 0 m 1 ∧ st 9 = .sl (B + 1) 0 n 1 ∧ h.nx = B + 1 + 1 ∧ h.bl B = some (.cells false true ((uL m i).flatMap (e1 I))) ∧ h.bl (B + 1) = some (.cells false true ((uL n j).flatMap (e1 I))) ∧ Go.Am.Own eP 2 h v (pAll a b m n i ++ pRow a b m i j))
    ⟨by simp (disch := first | (simp only [go_sem, gb0, eq_self]; done) | omega | (simp only [gl1, gl2]; omega)) only [go_sem, ↓reduceIte, Nat.reduceEqDiff, Nat.reduceAdd, Nat.reduceMul, Nat.reduceSub, Int.reduceToNat, Nat.reduceBEq, s0, s1, s6], by simp (disch := first | (simp only [go_sem, gb0, eq_self]; done) | omega | (simp only [gl1, gl2]; omega)) only [go_sem, ↓reduceIte, Nat.reduceEqDiff, Nat.reduceAdd, Nat.reduceMul, Nat.reduceSub, Int.reduceToNat, Nat.reduceBEq, s0, s1, s6], by simp (disch := first | (simp only [go_sem, gb0, eq_self]; done) | omega | (simp only [gl1, gl2]; omega)) only [go_sem, ↓reduceIte, Nat.reduceEqDiff, Nat.reduceAdd, Nat.reduceMul, Nat.reduceSub, Int.reduceToNat, Nat.reduceBEq, s0, s1, s6], by simp (disch := first | (simp only [go_sem, gb0, eq_self]; done) | omega | (simp only [gl1, gl2]; omega)) only [go_sem, ↓reduceIte, Nat.reduceEqDiff, Nat.reduceAdd, Nat.reduceMul, Nat.reduceSub, Int.reduceToNat, Nat.reduceBEq, s7], by simp (disch := first | (simp only [go_sem, gb0, eq_self]; done) | omega | (simp only [gl1, gl2]; omega)) only [go_sem, ↓reduceIte, Nat.reduceEqDiff, Nat.reduceAdd, Nat.reduceMul, Nat.reduceSub, Int.reduceToNat, Nat.reduceBEq, s5], by simp (disch := first | (simp only [go_sem, gb0, eq_self]; done) | omega | (simp only [gl1, gl2]; omega)) only [go_sem, ↓reduceIte, Nat.reduceEqDiff, Nat.reduceAdd, Nat.reduceMul, Nat.reduceSub, Int.reduceToNat, Nat.reduceBEq, s8], by simp (disch := first | (simp only [go_sem, gb0, eq_self]; done) | omega | (simp only [gl1, gl2]; omega)) only [go_sem, ↓reduceIte, Nat.reduceEqDiff, Nat.reduceAdd, Nat.reduceMul, Nat.reduceSub, Int.reduceToNat, Nat.reduceBEq, s9], by simp (disch := first | (simp only [go_sem, gb0, eq_self]; done) | omega | (simp only [gl1, gl2]; omega)) only [go_sem, ↓reduceIte, Nat.reduceEqDiff, Nat.reduceAdd, Nat.reduceMul, Nat.reduceSub, Int.reduceToNat, Nat.reduceBEq, hnx], by simp (disch := first | (simp only [go_sem, gb0, eq_self]; done) | omega | (simp only [gl1, gl2]; omega)) only [go_sem, ↓reduceIte, Nat.reduceEqDiff, Nat.reduceAdd, Nat.reduceMul, Nat.reduceSub, Int.reduceToNat, Nat.reduceBEq, ne0], by simp (disch := first | (simp only [go_sem, gb0, eq_self]; done) | omega | (simp only [gl1, gl2]; omega)) only [go_sem, ↓reduceIte, Nat.reduceEqDiff, Nat.reduceAdd, Nat.reduceMul, Nat.reduceSub, Int.reduceToNat, Nat.reduceBEq], ?_⟩ ?_
  · rcases ov with q | ⟨id, q, h1, h2⟩
    · exact .inl q
    · have := hvB _ _ _ _ q
      exact .inr ⟨id, q, by simp only [put_nx]; exact h1, by rw [put_bl, if_neg (by omega), put_bl, if_neg (by omega)]; exact h2⟩
  clear s0 s1 s6 s7 s5 s8 s9 hnx b0 b1 ov hsx hsy
  rintro st h ⟨s0, s1, s6, s7, s5, s8, s9, hnx, b0, b1, ov⟩
  have z1 := hsm h b0
  have z2 := hsn (h.put B (some (.cells true true ((uL m i).flatMap (e1 I))))) (by rw [put_bl, if_neg ne1]; exact b1)
  cases hp : pureB a b m i j with
  | false =>
    rw [hp] at kk22
    simp (disch := first | (simp only [go_sem, gb0, eq_self]; done) | omega | (simp only [gl1, gl2]; omega)) only [go_sem, ↓reduceIte, Nat.reduceEqDiff, Nat.reduceAdd, Nat.reduceMul, Nat.reduceSub, Int.reduceToNat, Nat.reduceBEq, s0, s1, s6, s5, s7, s8, s9, z1, z2, kk22]
    rw [ForK_normal]
    exact ⟨hjl, by simp (disch := first | (simp only [go_sem, gb0, eq_self]; done) | omega | (simp only [gl1, gl2]; omega)) only [go_sem, ↓reduceIte, Nat.reduceEqDiff, Nat.reduceAdd, Nat.reduceMul, Nat.reduceSub, Int.reduceToNat, Nat.reduceBEq, s7], by simp (disch := first | (simp only [go_sem, gb0, eq_self]; done) | omega | (simp only [gl1, gl2]; omega)) only [go_sem, ↓reduceIte, Nat.reduceEqDiff, Nat.reduceAdd, Nat.reduceMul, Nat.reduceSub, Int.reduceToNat, Nat.reduceBEq, s0], by simp (disch := first | (simp only [go_sem, gb0, eq_self]; done) | omega | (simp only [gl1, gl2]; omega)) only [go_sem, ↓reduceIte, Nat.reduceEqDiff, Nat.reduceAdd, Nat.reduceMul, Nat.reduceSub, Int.reduceToNat, Nat.reduceBEq, s1], by simp (disch := first | (simp only [go_sem, gb0, eq_self]; done) | omega | (simp only [gl1, gl2]; omega)) only [go_sem, ↓reduceIte, Nat.reduceEqDiff, Nat.reduceAdd, Nat.reduceMul, Nat.reduceSub, Int.reduceToNat, Nat.reduceBEq, s6], v, by simp (disch := first | (simp only [go_sem, gb0, eq_self]; done) | omega | (simp only [gl1, gl2]; omega)) only [go_sem, ↓reduceIte, Nat.reduceEqDiff, Nat.reduceAdd, Nat.reduceMul, Nat.reduceSub, Int.reduceToNat, Nat.reduceBEq, s5], by rw [pRow_no hp]; exact ov⟩
  | true =>
    rw [hp] at kk22
    have hbd : buildB Try.prog (some (TypeDesc.array 2 3)) (some (.agg [I 0, I 0])) [(0, I i), (1, I j)] = some (.agg [I i, I j]) := by kernel_rfl
    have hbs := fun h : Hp => bsB_pair (P := Try.prog) (h := h) 55 i j 0 0 isz55 izero55
    have happ := app_pair (P := Try.prog) ov 55 16 (.agg [I 0, I 0]) i j isz55 ibytes55 izero55 rfl (by rw [List.length_append]; omega) (by rw [List.length_append]; omega)
    simp (disch := first | (simp only [go_sem, gb0, eq_self]; done) | omega | (simp only [gl1, gl2]; omega)) only [go_sem, ↓reduceIte, Nat.reduceEqDiff, Nat.reduceAdd, Nat.reduceMul, Nat.reduceSub, Int.reduceToNat, Nat.reduceBEq, s0, s1, s6, s5, s7, s8, s9, z1, z2, kk22, hbd, hbs, happ]
    rw [ForK_normal]
    refine ⟨hjl, by simp (disch := first | (simp only [go_sem, gb0, eq_self]; done) | omega | (simp only [gl1, gl2]; omega)) only [go_sem, ↓reduceIte, Nat.reduceEqDiff, Nat.reduceAdd, Nat.reduceMul, Nat.reduceSub, Int.reduceToNat, Nat.reduceBEq, s7], by simp (disch := first | (simp only [go_sem, gb0, eq_self]; done) | omega | (simp only [gl1, gl2]; omega)) only [go_sem, ↓reduceIte, Nat.reduceEqDiff, Nat.reduceAdd, Nat.reduceMul, Nat.reduceSub, Int.reduceToNat, Nat.reduceBEq, s0], by simp (disch := first | (simp only [go_sem, gb0, eq_self]; done) | omega | (simp only [gl1, gl2]; omega)) only [go_sem, ↓reduceIte, Nat.reduceEqDiff, Nat.reduceAdd, Nat.reduceMul, Nat.reduceSub, Int.reduceToNat, Nat.reduceBEq, s1], by simp (disch := first | (simp only [go_sem, gb0, eq_self]; done) | omega | (simp only [gl1, gl2]; omega)) only [go_sem, ↓reduceIte, Nat.reduceEqDiff, Nat.reduceAdd, Nat.reduceMul, Nat.reduceSub, Int.reduceToNat, Nat.reduceBEq, s6], _, by simp (disch := first | (simp only [go_sem, gb0, eq_self]; done) | omega | (simp only [gl1, gl2]; omega)) only [go_sem, ↓reduceIte, Nat.reduceEqDiff, Nat.reduceAdd, Nat.reduceMul, Nat.reduceSub, Int.reduceToNat, Nat.reduceBEq]; rfl, ?_⟩
    rw [pRow_yes hp, ← List.append_assoc]; exact Own.app _ _ _
end Go.Proofs.Ytcdpkgmkckfonaa

set_option linter.unusedVariables false
set_option linter.unusedSimpArgs false
set_option maxRecDepth 10000
namespace Go.Proofs.Ytcdpkgmkckfonaa
open Go Go.Am

variable {h h' : Hp} {K : AV → Hp → Prop}

/-- A set of acts as the program holds it. -/
def pad8 (s : List Bool) : List Bool := fillR 8 (onB s) false s.length
def actsA (s : List Bool) : AV := .agg ((pad8 s).flatMap (e1 AV.bool))
theorem pad8_len (s : List Bool) : (pad8 s).length = 8 := fillR_len _ _ _ _
theorem pad8_nth {s : List Bool} {k : Nat} (hk : k < s.length) (h8 : s.length ≤ 8) : nth (pad8 s) k = onB s k := by
  rw [pad8, fillR_nth (by omega), if_pos hk]
/-- The equation of a label; its right side stands in column 4. -/
def rowL (a : List (List Int)) (m l c : Nat) : Int := if l < m then (if c = l then 1 else 0) else if c < m then PT a c (l - m) else if c = 4 then 1 else 0
/-- The equations of the first labels. -/
def XP (a : List (List Int)) (m : Nat) (s : List Bool) (k : Nat) : Mat := fun r c => if r < cardB (s.take k) then rowL a m (posB s r) c else 0
def XS (a : List (List Int)) (m : Nat) (s : List Bool) : Mat := XP a m s s.length
def den0 (a : List (List Int)) (m : Nat) (s : List Bool) : Int := det m (repM (XS a m s) (-1))
def num0 (a : List (List Int)) (m : Nat) (s : List Bool) (i : Nat) : Int := det m (repM (XS a m s) i)
def nums0 (a : List (List Int)) (m : Nat) (s : List Bool) : List Int := (List.range m).map (num0 a m s)
def numsC (a : List (List Int)) (m : Nat) (s : List Bool) : List Int := (List.range m).map fun i => if den0 a m s < 0 then - num0 a m s i else num0 a m s i
def denC (a : List (List Int)) (m : Nat) (s : List Bool) : Int := if den0 a m s < 0 then - den0 a m s else den0 a m s
def okCor (a : List (List Int)) (m n : Nat) (s : List Bool) : Bool := !decide (den0 a m s = 0) && okLab a m n (numsC a m s) (denC a m s)
def corA (xs : List Int) (d : Int) (bs : List Bool) : AV := .agg (LI xs :: I d :: bs.flatMap (e1 AV.bool))
def corOf (a : List (List Int)) (m n : Nat) (s : List Bool) : AV := corA (numsC a m s) (sumC m (numsC a m s)) (labC a m n (numsC a m s) (denC a m s))

theorem rowL_b {a : List (List Int)} {m n : Nat} (T : Tb a m n) {l c : Nat} (hl : l < m + n) : absI (rowL a m l c) ≤ 41 := by
  unfold rowL
  split
  · split <;> decide
  · split
    · have := PT_b T (i := c) (j := l - m) (by omega) (by omega)
      unfold absI; omega
    · split <;> decide
theorem XP_b {a : List (List Int)} {m n : Nat} (T : Tb a m n) {s : List Bool} (hl : s.length = m + n) (k r c : Nat) : absI (XP a m s k r c) ≤ 41 := by
  unfold XP
  split
  · rename_i h
    have hle : cardB (s.take k) ≤ cardB s := List.Sublist.count_le _ (List.take_sublist k s)
    have := (posB_lt (s := s) (k := r) (by omega)).1
    exact rowL_b T (by omega)
  · decide
theorem num0_b {a : List (List Int)} {m n : Nat} (T : Tb a m n) {s : List Bool} (hl : s.length = m + n) (i : Int) : -723394816 ≤ det m (repM (XS a m s) i) ∧ det m (repM (XS a m s) i) ≤ 723394816 := by
  have := detF_bound (M := repM (XS a m s) i) (fun r c => XP_b T hl _ _ _) 0 (s := List.replicate m true) (by simp [cardB]; exact T.m4)
  rw [detF_full] at this
  exact absI_le.1 this
theorem numsC_b {a : List (List Int)} {m n : Nat} (T : Tb a m n) {s : List Bool} (hl : s.length = m + n) : ∀ x ∈ numsC a m s, -723394816 ≤ x ∧ x ≤ 723394816 := by
  intro x hx
  obtain ⟨i, _, rfl⟩ := List.mem_map.1 hx
  have := num0_b T hl i
  unfold num0
  split <;> omega
theorem seal_corner {id : Nat} {xs : List Int} {d : Int} {bs : List Bool} (hb : h.bl id = some (.cells false true (xs.flatMap (e1 I)))) :
    ∃ h', sealA h (.agg (.sl id 0 xs.length 1 :: I d :: bs.flatMap (e1 AV.bool))) = some (corA xs d bs, h') := by
  have h1 : ∀ (bs : List Bool) (g : Hp), sealCells g (bs.flatMap (e1 AV.bool)) = some (bs.flatMap (e1 AV.bool), g) := by
    intro bs
    induction bs with
    | nil => intro g; rfl
    | cons b bs ih =>
      intro g
      show sealCells g (.bool b :: bs.flatMap (e1 AV.bool)) = some (.bool b :: bs.flatMap (e1 AV.bool), g)
      have : sealV g (.bool b) = some (.bool b, g) := rfl
      simp only [sealCells, this, Option.bind_some, ih, Option.map_some]
  have h2 : sealV h (.sl id 0 xs.length 1) = some (LI xs, h.put id (some (.cells true true (xs.flatMap (e1 I))))) := by
    have := sealSl_own (h := h) (f := e1 I) id xs.length false true xs rfl
    rw [← hb] at this
    rw [← this, ← sealA_sl]; rfl
  refine ⟨h.put id (some (.cells true true (xs.flatMap (e1 I)))), ?_⟩
  · have hnp : (AV.agg (.sl id 0 xs.length 1 :: I d :: bs.flatMap (e1 AV.bool))).isPure = false := rfl
    simp only [sealA, hnp, Bool.false_eq_true, if_false, sealCells, h2, Option.bind_some]
    have h3 : ∀ g : Hp, sealV g (I d) = some (I d, g) := fun _ => rfl
    simp only [h3, Option.bind_some, h1, Option.map_some]; rfl
noncomputable def mk76 (x : AV) : Option AV := buildB Try.prog (Try.prog.underlying 76) (izero Try.prog 76) [(1, x)]
noncomputable def mk103 (x : AV) : Option AV := buildB Try.prog (Try.prog.underlying 103) (izero Try.prog 103) [(0, x)]
section
variable {c : Cfg} {ops : Array Oper} {lim : Option Nat} {st : St} {K : AV → Hp → Prop}
@[go_sem ↓ high] theorem W_b76 (a : Operand) : StepW Try.prog c ops lim (.build 76 #[(1, a)]) st h K = getW (mk76 (ev st a)) h K := by
  rw [W_build]; rfl
@[go_sem ↓ high] theorem W_b103 (a : Operand) : StepW Try.prog c ops lim (.build 103 #[(0, a)]) st h K = getW (mk103 (ev st a)) h K := by
  rw [W_build]; rfl
def zc (d : Int) : List AV := [.nil, I d, .bool false, .bool false, .bool false, .bool false, .bool false, .bool false, .bool false, .bool false]
@[go_sem ↓ high] theorem W_b103z : StepW Try.prog c ops lim (.build 103 #[]) st h K = K (.agg (zc 0)) h := by
  rw [W_build, show buildB Try.prog (Try.prog.underlying 103) (izero Try.prog 103) ((#[] : Array (Nat × Operand)).toList.map fun p => (p.1, ev st p.2)) = some (.agg (zc 0)) by kernel_rfl]
  exact getW_some _
end
@[go_sem] theorem mk76_I (x : Int) : mk76 (I x) = some (.agg [.nil, I x]) := by kernel_rfl
@[go_sem] theorem mk103_I (x : Int) : mk103 (.agg [.nil, I x]) = some (.agg (zc x)) := by kernel_rfl
/-- Ten cells over ten. -/
theorem store10 (id : Nat) (cs xs : List AV) (hc : cs.length = 10) (hx : xs.length = 10) (ha : xs.all AV.isCell = true) : storeC h id 0 10 (some (.cells false false cs)) xs = some (.skp, h.put id (some (.cells false false xs))) := by
  rw [storeC_many id 0 10 false cs xs hx ha (by omega)]
  have := setL_all cs xs [] (by omega)
  simp only [List.nil_append, List.length_nil] at this
  rw [this]
end Go.Proofs.Ytcdpkgmkckfonaa

set_option linter.unusedVariables false
set_option linter.unusedSimpArgs false
set_option maxRecDepth 10000
namespace Go.Proofs.Ytcdpkgmkckfonaa
open Go Go.Am

variable {h h' : Hp} {K : AV → Hp → Prop}

theorem take_le (s : List Bool) (k : Nat) : cardB (s.take k) ≤ cardB s := List.Sublist.count_le _ (List.take_sublist k s)
theorem XP_off {a : List (List Int)} {m : Nat} {s : List Bool} {k : Nat} (hk : k < s.length) (ho : onB s k = false) : XP a m s (k + 1) = XP a m s k := by
  funext r c
  unfold XP
  rw [take_on hk, ho]; rfl
theorem XP_row {a : List (List Int)} {m : Nat} {s : List Bool} {k : Nat} (hk : k < s.length) (ho : onB s k = true) (r c : Nat) : XP a m s (k + 1) r c = if r = cardB (s.take k) then rowL a m k c else XP a m s k r c := by
  unfold XP
  rw [take_on hk, ho, if_pos rfl]
  by_cases e : r = cardB (s.take k)
  · subst e
    rw [if_pos (by omega), if_pos rfl, posB_take ho]
  · rw [if_neg e]
    by_cases e2 : r < cardB (s.take k)
    · rw [if_pos e2, if_pos (by omega)]
    · rw [if_neg e2, if_neg (by omega)]
def XI (a : List (List Int)) (m : Nat) (s : List Bool) (k i : Nat) : Mat := fun r c => if r = cardB (s.take k) ∧ c < i then PT a c (k - m) else XP a m s k r c
theorem XI_zero (a : List (List Int)) (m : Nat) (s : List Bool) (k : Nat) : XI a m s k 0 = XP a m s k := by
  funext r c; simp [XI]
theorem XI_succ (a : List (List Int)) (m : Nat) (s : List Bool) (k i : Nat) : setM (XI a m s k i) (cardB (s.take k)) i (PT a i (k - m)) = XI a m s k (i + 1) := by
  funext r c
  unfold setM XI
  by_cases e : r = cardB (s.take k)
  · by_cases e2 : c = i
    · subst e2; rw [if_pos ⟨e, rfl⟩, if_pos ⟨e, by omega⟩]
    · rw [if_neg (fun h => e2 h.2)]
      by_cases e3 : c < i
      · rw [if_pos ⟨e, e3⟩, if_pos ⟨e, by omega⟩]
      · rw [if_neg (fun h => e3 h.2), if_neg (fun h => by omega)]
  · rw [if_neg (fun h => e h.1), if_neg (fun h => e h.1), if_neg (fun h => e h.1)]
theorem XI_full {a : List (List Int)} {m : Nat} {s : List Bool} {k : Nat} (hm : m ≤ 4) (hk : k < s.length) (ho : onB s k = true) (hkm : ¬ k < m) : matA (setM (XI a m s k m) (cardB (s.take k)) 4 1) = matA (XP a m s (k + 1)) := matA_congr fun r c hr hc => by
  rw [XP_row hk ho]
  unfold setM XI
  by_cases e : r = cardB (s.take k)
  · rw [if_pos e]
    by_cases e2 : c = 4
    · rw [if_pos ⟨e, e2⟩, rowL, if_neg hkm, if_neg (by omega), if_pos e2]
    · rw [if_neg (fun h => e2 h.2), rowL, if_neg hkm]
      by_cases e3 : c < m
      · rw [if_pos ⟨e, e3⟩, if_pos e3]
      · rw [if_neg (fun h => e3 h.2), if_neg e3, if_neg e2]
        unfold XP; rw [if_neg (by omega)]
  · rw [if_neg (fun h => e h.1), if_neg (fun h => e h.1), if_neg e]
theorem XP_unit {a : List (List Int)} {m : Nat} {s : List Bool} {k : Nat} (hk : k < s.length) (ho : onB s k = true) (hkm : k < m) : setM (XP a m s k) (cardB (s.take k)) k 1 = XP a m s (k + 1) := by
  funext r c
  rw [XP_row hk ho]
  unfold setM
  by_cases e : r = cardB (s.take k)
  · rw [if_pos e]
    by_cases e2 : c = k
    · rw [if_pos ⟨e, e2⟩, rowL, if_pos hkm, if_pos e2]
    · rw [if_neg (fun h => e2 h.2), rowL, if_pos hkm, if_neg e2]
      unfold XP; rw [if_neg (by omega)]
  · rw [if_neg (fun h => e h.1), if_neg e]
def negL (a : List (List Int)) (m : Nat) (s : List Bool) (i : Nat) : List Int := (List.range m).map fun k => if k < i then - num0 a m s k else num0 a m s k
theorem negL_len (a : List (List Int)) (m : Nat) (s : List Bool) (i : Nat) : (negL a m s i).length = m := by simp [negL]
theorem negL_set {a : List (List Int)} {m : Nat} {s : List Bool} {i : Nat} (hi : i < m) : (negL a m s i).set i (- num0 a m s i) = negL a m s (i + 1) := by
  refine list_ext_nth (by simp [negL]) fun c hc => ?_
  rw [List.length_set, negL_len] at hc
  rw [nth_set _ _ _ _ (by rw [negL_len]; exact hi), negL, nth_map_range _ _ _ hc, negL, nth_map_range _ _ _ hc]
  by_cases e : i = c
  · subst e; rw [if_pos rfl, if_pos (by omega)]
  · rw [if_neg e]
    by_cases e2 : c < i
    · rw [if_pos e2, if_pos (by omega)]
    · rw [if_neg e2, if_neg (by omega)]
theorem nums0_succ (a : List (List Int)) (m : Nat) (s : List Bool) (i : Nat) : (List.range i).map (num0 a m s) ++ [num0 a m s i] = (List.range (i + 1)).map (num0 a m s) := rows_snoc _ _
theorem bs31 (h : Hp) (x : Int) : bsB Try.prog h (some (.slice 3)) 1 [(0, I x)] = some (.lst [[I x]], h) := bsB_one 3 (I x) (I x) (I 0) h isz3 izero3 rfl rfl rfl rfl rfl rfl rfl

theorem ld10 (cs : List AV) (hc : cs.length = 10) : loadC (Try.prog.underlying 103) (some 10) (some (cs, 0)) = some (.agg cs) := by
  rw [und103, loadC_agg _ 10 rfl cs 0 (by omega), List.drop_zero, List.take_of_length_le (by omega)]
theorem zc_1 (d : Int) : (zc d)[1]? = some (I d) := rfl
theorem cb_len (v : AV) (d : Int) {bs : List Bool} (h : bs.length = 8) : (v :: I d :: bs.flatMap (e1 AV.bool)).length = 10 := by rw [List.length_cons, List.length_cons, flat_len, h]
theorem app_facts {v : AV} {xs : List Int} (o : Go.Am.Own (e1 I) 1 h v xs) (x : Int) : (appH h v ((xs ++ [x]).flatMap (e1 I))).nx = h.nx + 1 ∧ (appH h v ((xs ++ [x]).flatMap (e1 I))).bl h.nx = some (.cells false true ((xs ++ [x]).flatMap (e1 I))) ∧
    ∀ k, k < h.nx → (∀ id o n z, v = .sl id o n z → k ≠ id) → (appH h v ((xs ++ [x]).flatMap (e1 I))).bl k = h.bl k := by
  rcases o with ⟨rfl, _⟩ | ⟨id, rfl, _, _⟩
  · exact ⟨rfl, by simp [appH, Hp.alloc], fun k hk _ => by simp [appH, Hp.alloc, show ¬ k = h.nx by omega]⟩
  · exact ⟨rfl, by simp [appH, Hp.alloc, Hp.put], fun k hk hne => by
      have := hne id _ _ _ rfl
      simp [appH, Hp.alloc, Hp.put, show ¬ k = h.nx by omega, this]⟩
set_option maxHeartbeats 2000000 in
theorem f80_con {a : List (List Int)} {m n : Nat} (T : Tb a m n) {s : List Bool} (hl : s.length = m + n) (hc : cardB s = m) :
    ∃ r, Con Try.prog cfg 80 [LLI a, actsA s] (.tup [r, .bool (okCor a m n s)]) ∧ (∃ cs, r = .agg cs ∧ cs.length = 10 ∧ cs.all AV.isCell = true) ∧ (okCor a m n s = true → r = corOf a m n s) := by
  have hm1 := T.m1
  have hm4 := T.m4
  have hn1 := T.n1
  have hn4 := T.n4
  have hla := T.len
  have hl0 := T.row 0 (by omega)
  have hal : ∀ g : Hp, allocB g (some (actsA s)) = some (.ptr g.nx 0, g.alloc (.cells false false ((pad8 s).flatMap (e1 AV.bool)))) := fun g => allocB_agg _ (List.all_eq_true.2 fun y hy => by
    obtain ⟨b, _, hb⟩ := List.mem_flatMap.1 hy
    simp only [e1, List.mem_singleton] at hb
    rw [hb]; rfl)
  have hal3 : ∀ g : Hp, allocB g (izero Try.prog 121) = some (.ptr g.nx 0, g.alloc (.cells false false (matA fun _ _ => 0))) := fun g => by
    rw [show izero Try.prog 121 = some (.agg (matA fun _ _ => 0)) by kernel_rfl]; exact allocB_agg _ (matA_cell _)
  simp only [izero121] at hal3
  have hal4 : ∀ g : Hp, allocB g (izero Try.prog 103) = some (.ptr g.nx 0, g.alloc (.cells false false (zc 0))) := fun g => by
    rw [show izero Try.prog 103 = some (.agg (zc 0)) by kernel_rfl]; exact allocB_agg _ rfl
  simp only [izero103] at hal4
  suffices hh : ∃ r, (∃ r0, r = .tup [r0, .bool (okCor a m n s)] ∧ (∃ cs, r0 = .agg cs ∧ cs.length = 10 ∧ cs.all AV.isCell = true) ∧ (okCor a m n s = true → r0 = corOf a m n s)) ∧ Con Try.prog cfg 80 [LLI a, actsA s] r by
    obtain ⟨r, ⟨r0, rfl, h3, h2⟩, h1⟩ := hh
    exact ⟨r0, h1, h3, h2⟩
  have hp8 := pad8_len s
  refine Con_introE Try.func80 rfl ok80 (Nat.le_of_ble_eq_true rfl) rfl ?_
  simp only [Try.f80, Option.getD_some, initSt2]
  simp (disch := first | (simp only [go_sem, gb0, eq_self]; done) | omega | (simp only [gl1, gl2]; omega)) only [go_sem, ↓reduceIte, Nat.reduceEqDiff, Nat.reduceAdd, Nat.reduceMul, Nat.reduceSub, Int.reduceToNat, Nat.reduceBEq, hal, hal3, hal4, hla, hl0]
  refine WP_cut (fun st g => st 0 = LLI a ∧ st 2 = .skp ∧ st 3 = .ptr 0 0 ∧ st 4 = .ptr 1 0 ∧ st 5 = .bool false ∧ st 6 = I m ∧ st 8 = .ptr 2 0 ∧ g.nx = 3 ∧ g.bl 1 = some (.cells false false (zc 0)) ∧ g.bl 2 = some (.cells false false (matA (XS a m s)))) ?_ ?_
  · refine WP_for 25 (m + n) (fun k st g => st 0 = LLI a ∧ st 2 = .skp ∧ st 3 = .ptr 0 0 ∧ st 4 = .ptr 1 0 ∧ st 5 = .bool false ∧ st 6 = I m ∧ st 8 = .ptr 2 0 ∧ st 24 = I ((m : Int) + n) ∧ st 9 = I (cardB (s.take k)) ∧ g.nx = 3 ∧ g.bl 0 = some (.cells false false ((pad8 s).flatMap (e1 AV.bool))) ∧ g.bl 1 = some (.cells false false (zc 0)) ∧ g.bl 2 = some (.cells false false (matA (XP a m s k)))) (by simp (disch := first | (simp only [go_sem, gb0, eq_self]; done) | omega | (simp only [gl1, gl2]; omega)) only [go_sem, ↓reduceIte, Nat.reduceEqDiff, Nat.reduceAdd, Nat.reduceMul, Nat.reduceSub, Int.reduceToNat, Nat.reduceBEq]) ⟨by simp (disch := first | (simp only [go_sem, gb0, eq_self]; done) | omega | (simp only [gl1, gl2]; omega)) only [go_sem, ↓reduceIte, Nat.reduceEqDiff, Nat.reduceAdd, Nat.reduceMul, Nat.reduceSub, Int.reduceToNat, Nat.reduceBEq, st0_skp], by simp (disch := first | (simp only [go_sem, gb0, eq_self]; done) | omega | (simp only [gl1, gl2]; omega)) only [go_sem, ↓reduceIte, Nat.reduceEqDiff, Nat.reduceAdd, Nat.reduceMul, Nat.reduceSub, Int.reduceToNat, Nat.reduceBEq, st0_skp], by simp (disch := first | (simp only [go_sem, gb0, eq_self]; done) | omega | (simp only [gl1, gl2]; omega)) only [go_sem, ↓reduceIte, Nat.reduceEqDiff, Nat.reduceAdd, Nat.reduceMul, Nat.reduceSub, Int.reduceToNat, Nat.reduceBEq, st0_skp], by simp (disch := first | (simp only [go_sem, gb0, eq_self]; done) | omega | (simp only [gl1, gl2]; omega)) only [go_sem, ↓reduceIte, Nat.reduceEqDiff, Nat.reduceAdd, Nat.reduceMul, Nat.reduceSub, Int.reduceToNat, Nat.reduceBEq, st0_skp], by simp (disch := first | (simp only [go_sem, gb0, eq_self]; done) | omega | (simp only [gl1, gl2]; omega)) only [go_sem, ↓reduceIte, Nat.reduceEqDiff, Nat.reduceAdd, Nat.reduceMul, Nat.reduceSub, Int.reduceToNat, Nat.reduceBEq, st0_skp], by simp (disch := first | (simp only [go_sem, gb0, eq_self]; done) | omega | (simp only [gl1, gl2]; omega)) only [go_sem, ↓reduceIte, Nat.reduceEqDiff, Nat.reduceAdd, Nat.reduceMul, Nat.reduceSub, Int.reduceToNat, Nat.reduceBEq, st0_skp], by simp (disch := first | (simp only [go_sem, gb0, eq_self]; done) | omega | (simp only [gl1, gl2]; omega)) only [go_sem, ↓reduceIte, Nat.reduceEqDiff, Nat.reduceAdd, Nat.reduceMul, Nat.reduceSub, Int.reduceToNat, Nat.reduceBEq, st0_skp], by simp (disch := first | (simp only [go_sem, gb0, eq_self]; done) | omega | (simp only [gl1, gl2]; omega)) only [go_sem, ↓reduceIte, Nat.reduceEqDiff, Nat.reduceAdd, Nat.reduceMul, Nat.reduceSub, Int.reduceToNat, Nat.reduceBEq, st0_skp], by simp (disch := first | (simp only [go_sem, gb0, eq_self]; done) | omega | (simp only [gl1, gl2]; omega)) only [go_sem, ↓reduceIte, Nat.reduceEqDiff, Nat.reduceAdd, Nat.reduceMul, Nat.reduceSub, Int.reduceToNat, Nat.reduceBEq]; rfl, by simp (disch := first | (simp only [go_sem, gb0, eq_self]; done) | omega | (simp only [gl1, gl2]; omega)) only [go_sem, ↓reduceIte, Nat.reduceEqDiff, Nat.reduceAdd, Nat.reduceMul, Nat.reduceSub, Int.reduceToNat, Nat.reduceBEq], by simp (disch := first | (simp only [go_sem, gb0, eq_self]; done) | omega | (simp only [gl1, gl2]; omega)) only [go_sem, ↓reduceIte, Nat.reduceEqDiff, Nat.reduceAdd, Nat.reduceMul, Nat.reduceSub, Int.reduceToNat, Nat.reduceBEq], by simp (disch := first | (simp only [go_sem, gb0, eq_self]; done) | omega | (simp only [gl1, gl2]; omega)) only [go_sem, ↓reduceIte, Nat.reduceEqDiff, Nat.reduceAdd, Nat.reduceMul, Nat.reduceSub, Int.reduceToNat, Nat.reduceBEq], by simp (disch := first | (simp only [go_sem, gb0, eq_self]; done) | omega | (simp only [gl1, gl2]; omega)) only [go_sem, ↓reduceIte, Nat.reduceEqDiff, Nat.reduceAdd, Nat.reduceMul, Nat.reduceSub, Int.reduceToNat, Nat.reduceBEq]; rfl⟩ ?_
    rintro k st g hk s25 ⟨s0, s2, s3, s4, s5, s6, s8, s24, s9, gn, g0, g1, g2⟩
    by_cases hlt : k < m + n
    case neg =>
      have hke : k = m + n := by omega
      subst hke
      have hX : XP a m s (m + n) = XS a m s := by unfold XS; rw [hl]
      have hnl : ¬ (((m + n : Nat) : Int) < (m : Int) + n) := by omega
      simp (disch := first | (simp only [go_sem, gb0, eq_self]; done) | omega | (simp only [gl1, gl2]; omega)) only [go_sem, ↓reduceIte, Nat.reduceEqDiff, Nat.reduceAdd, Nat.reduceMul, Nat.reduceSub, Int.reduceToNat, Nat.reduceBEq, s0, s2, s3, s4, s5, s6, s8, s24, s9, s25, hnl]
      exact ⟨gn, g1, by rw [g2, hX]⟩
    have hlt' : (k : Int) < (m : Int) + n := by omega
    have hk8 : k < 8 := by omega
    have hk8' : (k : Int) < 8 := by omega
    have e8 : ((pad8 s).flatMap (e1 AV.bool))[k]? = some (.bool (onB s k)) := by rw [flat_get _ _ _ (by omega), pad8_nth (by omega) (by omega)]
    have hr := take_le s k
    cases ho : onB s k with
    | false =>
      rw [ho] at e8
      have q1 : cardB (s.take (k + 1)) = cardB (s.take k) := by rw [take_on (by omega), ho]; rfl
      simp (disch := first | (simp only [go_sem, gb0, eq_self]; done) | omega | (simp only [gl1, gl2]; omega)) only [go_sem, ↓reduceIte, Nat.reduceEqDiff, Nat.reduceAdd, Nat.reduceMul, Nat.reduceSub, Int.reduceToNat, Nat.reduceBEq, s0, s2, s3, s4, s5, s6, s8, s24, s9, s25, hlt', hk8, hk8', g0, e8]
      rw [ForK_normal]
      exact ⟨hlt, by simp (disch := first | (simp only [go_sem, gb0, eq_self]; done) | omega | (simp only [gl1, gl2]; omega)) only [go_sem, ↓reduceIte, Nat.reduceEqDiff, Nat.reduceAdd, Nat.reduceMul, Nat.reduceSub, Int.reduceToNat, Nat.reduceBEq, s25], by simp (disch := first | (simp only [go_sem, gb0, eq_self]; done) | omega | (simp only [gl1, gl2]; omega)) only [go_sem, ↓reduceIte, Nat.reduceEqDiff, Nat.reduceAdd, Nat.reduceMul, Nat.reduceSub, Int.reduceToNat, Nat.reduceBEq, s0], by simp (disch := first | (simp only [go_sem, gb0, eq_self]; done) | omega | (simp only [gl1, gl2]; omega)) only [go_sem, ↓reduceIte, Nat.reduceEqDiff, Nat.reduceAdd, Nat.reduceMul, Nat.reduceSub, Int.reduceToNat, Nat.reduceBEq, s2], by simp (disch := first | (simp only [go_sem, gb0, eq_self]; done) | omega | (simp only [gl1, gl2]; omega)) only [go_sem, ↓reduceIte, Nat.reduceEqDiff, Nat.reduceAdd, Nat.reduceMul, Nat.reduceSub, Int.reduceToNat, Nat.reduceBEq, s3], by simp (disch := first | (simp only [go_sem, gb0, eq_self]; done) | omega | (simp only [gl1, gl2]; omega)) only [go_sem, ↓reduceIte, Nat.reduceEqDiff, Nat.reduceAdd, Nat.reduceMul, Nat.reduceSub, Int.reduceToNat, Nat.reduceBEq, s4], by simp (disch := first | (simp only [go_sem, gb0, eq_self]; done) | omega | (simp only [gl1, gl2]; omega)) only [go_sem, ↓reduceIte, Nat.reduceEqDiff, Nat.reduceAdd, Nat.reduceMul, Nat.reduceSub, Int.reduceToNat, Nat.reduceBEq, s5], by simp (disch := first | (simp only [go_sem, gb0, eq_self]; done) | omega | (simp only [gl1, gl2]; omega)) only [go_sem, ↓reduceIte, Nat.reduceEqDiff, Nat.reduceAdd, Nat.reduceMul, Nat.reduceSub, Int.reduceToNat, Nat.reduceBEq, s6], by simp (disch := first | (simp only [go_sem, gb0, eq_self]; done) | omega | (simp only [gl1, gl2]; omega)) only [go_sem, ↓reduceIte, Nat.reduceEqDiff, Nat.reduceAdd, Nat.reduceMul, Nat.reduceSub, Int.reduceToNat, Nat.reduceBEq, s8], by simp (disch := first | (simp only [go_sem, gb0, eq_self]; done) | omega | (simp only [gl1, gl2]; omega)) only [go_sem, ↓reduceIte, Nat.reduceEqDiff, Nat.reduceAdd, Nat.reduceMul, Nat.reduceSub, Int.reduceToNat, Nat.reduceBEq, s24], by simp (disch := first | (simp only [go_sem, gb0, eq_self]; done) | omega | (simp only [gl1, gl2]; omega)) only [go_sem, ↓reduceIte, Nat.reduceEqDiff, Nat.reduceAdd, Nat.reduceMul, Nat.reduceSub, Int.reduceToNat, Nat.reduceBEq, s9, q1], gn, g0, g1, by rw [g2, XP_off (by omega) ho]⟩
    | true =>
      rw [ho] at e8
      have q1 : cardB (s.take (k + 1)) = cardB (s.take k) + 1 := by rw [take_on (by omega), ho]; rfl
      have q1' : ((cardB (s.take (k + 1)) : Nat) : Int) = (cardB (s.take k) : Int) + 1 := by omega
      have q2 := take_le s (k + 1)
      have hr4 : cardB (s.take k) < 4 := by omega
      have hr4' : ((cardB (s.take k) : Nat) : Int) < 4 := by omega
      by_cases hkm : k < m
      · have hkm' : (k : Int) < m := by omega
        have hk5 : k < 5 := by omega
        have hk5' : (k : Int) < 5 := by omega
        have hx := XP_unit (a := a) (s := s) (k := k) (by omega) ho hkm
        simp (disch := first | (simp only [go_sem, gb0, eq_self]; done) | omega | (simp only [gl1, gl2]; omega)) only [go_sem, ↓reduceIte, Nat.reduceEqDiff, Nat.reduceAdd, Nat.reduceMul, Nat.reduceSub, Int.reduceToNat, Nat.reduceBEq, s0, s2, s3, s4, s5, s6, s8, s24, s9, s25, hlt', hk8, hk8', g0, e8, hkm', hr4, hr4', hk5, hk5', g2, matA_store, hx]
        rw [ForK_normal]
        exact ⟨hlt, by simp (disch := first | (simp only [go_sem, gb0, eq_self]; done) | omega | (simp only [gl1, gl2]; omega)) only [go_sem, ↓reduceIte, Nat.reduceEqDiff, Nat.reduceAdd, Nat.reduceMul, Nat.reduceSub, Int.reduceToNat, Nat.reduceBEq, s25], by simp (disch := first | (simp only [go_sem, gb0, eq_self]; done) | omega | (simp only [gl1, gl2]; omega)) only [go_sem, ↓reduceIte, Nat.reduceEqDiff, Nat.reduceAdd, Nat.reduceMul, Nat.reduceSub, Int.reduceToNat, Nat.reduceBEq, s0], by simp (disch := first | (simp only [go_sem, gb0, eq_self]; done) | omega | (simp only [gl1, gl2]; omega)) only [go_sem, ↓reduceIte, Nat.reduceEqDiff, Nat.reduceAdd, Nat.reduceMul, Nat.reduceSub, Int.reduceToNat, Nat.reduceBEq, s2], by simp (disch := first | (simp only [go_sem, gb0, eq_self]; done) | omega | (simp only [gl1, gl2]; omega)) only [go_sem, ↓reduceIte, Nat.reduceEqDiff, Nat.reduceAdd, Nat.reduceMul, Nat.reduceSub, Int.reduceToNat, Nat.reduceBEq, s3], by simp (disch := first | (simp only [go_sem, gb0, eq_self]; done) | omega | (simp only [gl1, gl2]; omega)) only [go_sem, ↓reduceIte, Nat.reduceEqDiff, Nat.reduceAdd, Nat.reduceMul, Nat.reduceSub, Int.reduceToNat, Nat.reduceBEq, s4], by simp (disch := first | (simp only [go_sem, gb0, eq_self]; done) | omega | (simp only [gl1, gl2]; omega)) only [go_sem, ↓reduceIte, Nat.reduceEqDiff, Nat.reduceAdd, Nat.reduceMul, Nat.reduceSub, Int.reduceToNat, Nat.reduceBEq, s5], by simp (disch := first | (simp only [go_sem, gb0, eq_self]; done) | omega | (simp only [gl1, gl2]; omega)) only [go_sem, ↓reduceIte, Nat.reduceEqDiff, Nat.reduceAdd, Nat.reduceMul, Nat.reduceSub, Int.reduceToNat, Nat.reduceBEq, s6], by simp (disch := first | (simp only [go_sem, gb0, eq_self]; done) | omega | (simp only [gl1, gl2]; omega)) only [go_sem, ↓reduceIte, Nat.reduceEqDiff, Nat.reduceAdd, Nat.reduceMul, Nat.reduceSub, Int.reduceToNat, Nat.reduceBEq, s8], by simp (disch := first | (simp only [go_sem, gb0, eq_self]; done) | omega | (simp only [gl1, gl2]; omega)) only [go_sem, ↓reduceIte, Nat.reduceEqDiff, Nat.reduceAdd, Nat.reduceMul, Nat.reduceSub, Int.reduceToNat, Nat.reduceBEq, s24], by simp (disch := first | (simp only [go_sem, gb0, eq_self]; done) | omega | (simp only [gl1, gl2]; omega)) only [go_sem, ↓reduceIte, Nat.reduceEqDiff, Nat.reduceAdd, Nat.reduceMul, Nat.reduceSub, Int.reduceToNat, Nat.reduceBEq, s9, q1'], gn, by simp [upd, Hp.put, Hp.alloc, g0], by simp [upd, Hp.put, Hp.alloc, g1], by simp [upd, Hp.put, Hp.alloc]⟩
      · have hkm' : ¬ (k : Int) < m := by omega
        simp (disch := first | (simp only [go_sem, gb0, eq_self]; done) | omega | (simp only [gl1, gl2]; omega)) only [go_sem, ↓reduceIte, Nat.reduceEqDiff, Nat.reduceAdd, Nat.reduceMul, Nat.reduceSub, Int.reduceToNat, Nat.reduceBEq, s0, s2, s3, s4, s5, s6, s8, s24, s9, s25, hlt', hk8, hk8', g0, e8, hkm']
        refine WP_cut (fun st g => st 0 = LLI a ∧ st 2 = .skp ∧ st 3 = .ptr 0 0 ∧ st 4 = .ptr 1 0 ∧ st 5 = .bool false ∧ st 6 = I m ∧ st 8 = .ptr 2 0 ∧ st 24 = I ((m : Int) + n) ∧ st 9 = I (cardB (s.take k)) ∧ st 10 = I k ∧ st 25 = I k ∧ st 39 = I m ∧ g.nx = 3 ∧ g.bl 0 = some (.cells false false ((pad8 s).flatMap (e1 AV.bool))) ∧ g.bl 1 = some (.cells false false (zc 0)) ∧ g.bl 2 = some (.cells false false (matA (XI a m s k m)))) ?_ ?_
        · refine WP_for 40 m (fun i st g => st 0 = LLI a ∧ st 2 = .skp ∧ st 3 = .ptr 0 0 ∧ st 4 = .ptr 1 0 ∧ st 5 = .bool false ∧ st 6 = I m ∧ st 8 = .ptr 2 0 ∧ st 24 = I ((m : Int) + n) ∧ st 9 = I (cardB (s.take k)) ∧ st 10 = I k ∧ st 25 = I k ∧ st 39 = I m ∧ g.nx = 3 ∧ g.bl 0 = some (.cells false false ((pad8 s).flatMap (e1 AV.bool))) ∧ g.bl 1 = some (.cells false false (zc 0)) ∧ g.bl 2 = some (.cells false false (matA (XI a m s k i)))) (by simp (disch := first | (simp only [go_sem, gb0, eq_self]; done) | omega | (simp only [gl1, gl2]; omega)) only [go_sem, ↓reduceIte, Nat.reduceEqDiff, Nat.reduceAdd, Nat.reduceMul, Nat.reduceSub, Int.reduceToNat, Nat.reduceBEq]) ⟨by simp (disch := first | (simp only [go_sem, gb0, eq_self]; done) | omega | (simp only [gl1, gl2]; omega)) only [go_sem, ↓reduceIte, Nat.reduceEqDiff, Nat.reduceAdd, Nat.reduceMul, Nat.reduceSub, Int.reduceToNat, Nat.reduceBEq, s0, s2, s3, s4, s5, s6, s8, s24, s9, s25], by simp (disch := first | (simp only [go_sem, gb0, eq_self]; done) | omega | (simp only [gl1, gl2]; omega)) only [go_sem, ↓reduceIte, Nat.reduceEqDiff, Nat.reduceAdd, Nat.reduceMul, Nat.reduceSub, Int.reduceToNat, Nat.reduceBEq, s0, s2, s3, s4, s5, s6, s8, s24, s9, s25], by simp (disch := first | (simp only [go_sem, gb0, eq_self]; done) | omega | (simp only [gl1, gl2]; omega)) only [go_sem, ↓reduceIte, Nat.reduceEqDiff, Nat.reduceAdd, Nat.reduceMul, Nat.reduceSub, Int.reduceToNat, Nat.reduceBEq, s0, s2, s3, s4, s5, s6, s8, s24, s9, s25], by simp (disch := first | (simp only [go_sem, gb0, eq_self]; done) | omega | (simp only [gl1, gl2]; omega)) only [go_sem, ↓reduceIte, Nat.reduceEqDiff, Nat.reduceAdd, Nat.reduceMul, Nat.reduceSub, Int.reduceToNat, Nat.reduceBEq, s0, s2, s3, s4, s5, s6, s8, s24, s9, s25], by simp (disch := first | (simp only [go_sem, gb0, eq_self]; done) | omega | (simp only [gl1, gl2]; omega)) only [go_sem, ↓reduceIte, Nat.reduceEqDiff, Nat.reduceAdd, Nat.reduceMul, Nat.reduceSub, Int.reduceToNat, Nat.reduceBEq, s0, s2, s3, s4, s5, s6, s8, s24, s9, s25], by simp (disch := first | (simp only [go_sem, gb0, eq_self]; done) | omega | (simp only [gl1, gl2]; omega)) only [go_sem, ↓reduceIte, Nat.reduceEqDiff, Nat.reduceAdd, Nat.reduceMul, Nat.reduceSub, Int.reduceToNat, Nat.reduceBEq, s0, s2, s3, s4, s5, s6, s8, s24, s9, s25], by simp (disch := first | (simp only [go_sem, gb0, eq_self]; done) | omega | (simp only [gl1, gl2]; omega)) only [go_sem, ↓reduceIte, Nat.reduceEqDiff, Nat.reduceAdd, Nat.reduceMul, Nat.reduceSub, Int.reduceToNat, Nat.reduceBEq, s0, s2, s3, s4, s5, s6, s8, s24, s9, s25], by simp (disch := first | (simp only [go_sem, gb0, eq_self]; done) | omega | (simp only [gl1, gl2]; omega)) only [go_sem, ↓reduceIte, Nat.reduceEqDiff, Nat.reduceAdd, Nat.reduceMul, Nat.reduceSub, Int.reduceToNat, Nat.reduceBEq, s0, s2, s3, s4, s5, s6, s8, s24, s9, s25], by simp (disch := first | (simp only [go_sem, gb0, eq_self]; done) | omega | (simp only [gl1, gl2]; omega)) only [go_sem, ↓reduceIte, Nat.reduceEqDiff, Nat.reduceAdd, Nat.reduceMul, Nat.reduceSub, Int.reduceToNat, Nat.reduceBEq, s0, s2, s3, s4, s5, s6, s8, s24, s9, s25], by simp (disch := first | (simp only [go_sem, gb0, eq_self]; done) | omega | (simp only [gl1, gl2]; omega)) only [go_sem, ↓reduceIte, Nat.reduceEqDiff, Nat.reduceAdd, Nat.reduceMul, Nat.reduceSub, Int.reduceToNat, Nat.reduceBEq, s0, s2, s3, s4, s5, s6, s8, s24, s9, s25], by simp (disch := first | (simp only [go_sem, gb0, eq_self]; done) | omega | (simp only [gl1, gl2]; omega)) only [go_sem, ↓reduceIte, Nat.reduceEqDiff, Nat.reduceAdd, Nat.reduceMul, Nat.reduceSub, Int.reduceToNat, Nat.reduceBEq, s0, s2, s3, s4, s5, s6, s8, s24, s9, s25], by simp (disch := first | (simp only [go_sem, gb0, eq_self]; done) | omega | (simp only [gl1, gl2]; omega)) only [go_sem, ↓reduceIte, Nat.reduceEqDiff, Nat.reduceAdd, Nat.reduceMul, Nat.reduceSub, Int.reduceToNat, Nat.reduceBEq, s0, s2, s3, s4, s5, s6, s8, s24, s9, s25], gn, g0, g1, by rw [g2, XI_zero]⟩ ?_
          clear s0 s2 s3 s4 s5 s6 s8 s9 s24 s25 gn g0 g1 g2
          rintro i st g hi s40 ⟨s0, s2, s3, s4, s5, s6, s8, s24, s9, s10, s25, s39, gn, g0, g1, g2⟩
          by_cases hlm : i < m
          case neg =>
            have hie : i = m := by omega
            subst hie
            simp (disch := first | (simp only [go_sem, gb0, eq_self]; done) | omega | (simp only [gl1, gl2]; omega)) only [go_sem, ↓reduceIte, Nat.reduceEqDiff, Nat.reduceAdd, Nat.reduceMul, Nat.reduceSub, Int.reduceToNat, Nat.reduceBEq, s0, s2, s3, s4, s5, s6, s8, s24, s9, s10, s25, s39, s40, hlm]
            exact ⟨gn, g0, g1, g2⟩
          have hlm' : (i : Int) < m := by omega
          have hi5 : i < 5 := by omega
          have hi5' : (i : Int) < 5 := by omega
          have hli : i < a.length := by omega
          have hli' : (i : Int) < a.length := by omega
          have hj : k - m < n := by omega
          have hlj : k - m < (nth a i).length := by rw [T.row i hlm]; exact hj
          have hlj' : (k : Int) - m < (nth a i).length := by omega
          have hkm0 : (0 : Int) ≤ (k : Int) - m := by omega
          have htn : ((k : Int) - (m : Int)).toNat = k - m := by omega
          have hpt : nth (nth a i) (k - m) + 21 = PT a i (k - m) := rfl
          have hbd := T.bd i hlm (k - m) hj
          have hx := XI_succ a m s k i
          have hct : ∀ L : List Nat, (L ++ [2]).contains 2 = true := fun L => by simp
          simp (maxSteps := 3000000) (disch := first | (simp only [go_sem, gb0, eq_self]; done) | omega | (simp only [gl1, gl2]; omega)) only [go_sem, ↓reduceIte, Nat.reduceEqDiff, Nat.reduceAdd, Nat.reduceMul, Nat.reduceSub, Int.reduceToNat, Nat.reduceBEq, s0, s2, s3, s4, s5, s6, s8, s24, s9, s10, s25, s39, s40, hct, gn, hlm, hlm', hi5, hi5', hli, hli', hlj, hlj', hkm0, htn, hpt, hr4, hr4', g2, matA_store, hx, List.filterMap_cons, List.filterMap_nil, List.contains_nil, List.contains_cons, Bool.not_false, Bool.not_true, Bool.or_true, Bool.true_or, List.nil_append, List.cons_append, Nat.reduceLT, decide_true, decide_false, List.drop_succ_cons]
          rw [ForK_normal]
          exact ⟨hlm, by simp (disch := first | (simp only [go_sem, gb0, eq_self]; done) | omega | (simp only [gl1, gl2]; omega)) only [go_sem, ↓reduceIte, Nat.reduceEqDiff, Nat.reduceAdd, Nat.reduceMul, Nat.reduceSub, Int.reduceToNat, Nat.reduceBEq, s40], by simp (disch := first | (simp only [go_sem, gb0, eq_self]; done) | omega | (simp only [gl1, gl2]; omega)) only [go_sem, ↓reduceIte, Nat.reduceEqDiff, Nat.reduceAdd, Nat.reduceMul, Nat.reduceSub, Int.reduceToNat, Nat.reduceBEq, s0], by simp (disch := first | (simp only [go_sem, gb0, eq_self]; done) | omega | (simp only [gl1, gl2]; omega)) only [go_sem, ↓reduceIte, Nat.reduceEqDiff, Nat.reduceAdd, Nat.reduceMul, Nat.reduceSub, Int.reduceToNat, Nat.reduceBEq, s2], by simp (disch := first | (simp only [go_sem, gb0, eq_self]; done) | omega | (simp only [gl1, gl2]; omega)) only [go_sem, ↓reduceIte, Nat.reduceEqDiff, Nat.reduceAdd, Nat.reduceMul, Nat.reduceSub, Int.reduceToNat, Nat.reduceBEq, s3], by simp (disch := first | (simp only [go_sem, gb0, eq_self]; done) | omega | (simp only [gl1, gl2]; omega)) only [go_sem, ↓reduceIte, Nat.reduceEqDiff, Nat.reduceAdd, Nat.reduceMul, Nat.reduceSub, Int.reduceToNat, Nat.reduceBEq, s4], by simp (disch := first | (simp only [go_sem, gb0, eq_self]; done) | omega | (simp only [gl1, gl2]; omega)) only [go_sem, ↓reduceIte, Nat.reduceEqDiff, Nat.reduceAdd, Nat.reduceMul, Nat.reduceSub, Int.reduceToNat, Nat.reduceBEq, s5], by simp (disch := first | (simp only [go_sem, gb0, eq_self]; done) | omega | (simp only [gl1, gl2]; omega)) only [go_sem, ↓reduceIte, Nat.reduceEqDiff, Nat.reduceAdd, Nat.reduceMul, Nat.reduceSub, Int.reduceToNat, Nat.reduceBEq, s6], by simp (disch := first | (simp only [go_sem, gb0, eq_self]; done) | omega | (simp only [gl1, gl2]; omega)) only [go_sem, ↓reduceIte, Nat.reduceEqDiff, Nat.reduceAdd, Nat.reduceMul, Nat.reduceSub, Int.reduceToNat, Nat.reduceBEq, s8], by simp (disch := first | (simp only [go_sem, gb0, eq_self]; done) | omega | (simp only [gl1, gl2]; omega)) only [go_sem, ↓reduceIte, Nat.reduceEqDiff, Nat.reduceAdd, Nat.reduceMul, Nat.reduceSub, Int.reduceToNat, Nat.reduceBEq, s24], by simp (disch := first | (simp only [go_sem, gb0, eq_self]; done) | omega | (simp only [gl1, gl2]; omega)) only [go_sem, ↓reduceIte, Nat.reduceEqDiff, Nat.reduceAdd, Nat.reduceMul, Nat.reduceSub, Int.reduceToNat, Nat.reduceBEq, s9], by simp (disch := first | (simp only [go_sem, gb0, eq_self]; done) | omega | (simp only [gl1, gl2]; omega)) only [go_sem, ↓reduceIte, Nat.reduceEqDiff, Nat.reduceAdd, Nat.reduceMul, Nat.reduceSub, Int.reduceToNat, Nat.reduceBEq, s10], by simp (disch := first | (simp only [go_sem, gb0, eq_self]; done) | omega | (simp only [gl1, gl2]; omega)) only [go_sem, ↓reduceIte, Nat.reduceEqDiff, Nat.reduceAdd, Nat.reduceMul, Nat.reduceSub, Int.reduceToNat, Nat.reduceBEq, s25], by simp (disch := first | (simp only [go_sem, gb0, eq_self]; done) | omega | (simp only [gl1, gl2]; omega)) only [go_sem, ↓reduceIte, Nat.reduceEqDiff, Nat.reduceAdd, Nat.reduceMul, Nat.reduceSub, Int.reduceToNat, Nat.reduceBEq, s39], gn, by simp [upd, Hp.put, Hp.alloc, g0], by simp [upd, Hp.put, Hp.alloc, g1], by simp [upd, Hp.put, Hp.alloc]⟩
        clear s0 s2 s3 s4 s5 s6 s8 s9 s24 s25 gn g0 g1 g2
        rintro st g ⟨s0, s2, s3, s4, s5, s6, s8, s24, s9, s10, s25, s39, gn, g0, g1, g2⟩
        have hx := XI_full (a := a) (s := s) (k := k) hm4 (by omega) ho hkm
        simp (disch := first | (simp only [go_sem, gb0, eq_self]; done) | omega | (simp only [gl1, gl2]; omega)) only [go_sem, ↓reduceIte, Nat.reduceEqDiff, Nat.reduceAdd, Nat.reduceMul, Nat.reduceSub, Int.reduceToNat, Nat.reduceBEq, s0, s2, s3, s4, s5, s6, s8, s24, s9, s10, s25, s39, hr4, hr4', g2, matA_store, hx]
        rw [ForK_normal]
        exact ⟨hlt, by simp (disch := first | (simp only [go_sem, gb0, eq_self]; done) | omega | (simp only [gl1, gl2]; omega)) only [go_sem, ↓reduceIte, Nat.reduceEqDiff, Nat.reduceAdd, Nat.reduceMul, Nat.reduceSub, Int.reduceToNat, Nat.reduceBEq, s25], by simp (disch := first | (simp only [go_sem, gb0, eq_self]; done) | omega | (simp only [gl1, gl2]; omega)) only [go_sem, ↓reduceIte, Nat.reduceEqDiff, Nat.reduceAdd, Nat.reduceMul, Nat.reduceSub, Int.reduceToNat, Nat.reduceBEq, s0], by simp (disch := first | (simp only [go_sem, gb0, eq_self]; done) | omega | (simp only [gl1, gl2]; omega)) only [go_sem, ↓reduceIte, Nat.reduceEqDiff, Nat.reduceAdd, Nat.reduceMul, Nat.reduceSub, Int.reduceToNat, Nat.reduceBEq, s2], by simp (disch := first | (simp only [go_sem, gb0, eq_self]; done) | omega | (simp only [gl1, gl2]; omega)) only [go_sem, ↓reduceIte, Nat.reduceEqDiff, Nat.reduceAdd, Nat.reduceMul, Nat.reduceSub, Int.reduceToNat, Nat.reduceBEq, s3], by simp (disch := first | (simp only [go_sem, gb0, eq_self]; done) | omega | (simp only [gl1, gl2]; omega)) only [go_sem, ↓reduceIte, Nat.reduceEqDiff, Nat.reduceAdd, Nat.reduceMul, Nat.reduceSub, Int.reduceToNat, Nat.reduceBEq, s4], by simp (disch := first | (simp only [go_sem, gb0, eq_self]; done) | omega | (simp only [gl1, gl2]; omega)) only [go_sem, ↓reduceIte, Nat.reduceEqDiff, Nat.reduceAdd, Nat.reduceMul, Nat.reduceSub, Int.reduceToNat, Nat.reduceBEq, s5], by simp (disch := first | (simp only [go_sem, gb0, eq_self]; done) | omega | (simp only [gl1, gl2]; omega)) only [go_sem, ↓reduceIte, Nat.reduceEqDiff, Nat.reduceAdd, Nat.reduceMul, Nat.reduceSub, Int.reduceToNat, Nat.reduceBEq, s6], by simp (disch := first | (simp only [go_sem, gb0, eq_self]; done) | omega | (simp only [gl1, gl2]; omega)) only [go_sem, ↓reduceIte, Nat.reduceEqDiff, Nat.reduceAdd, Nat.reduceMul, Nat.reduceSub, Int.reduceToNat, Nat.reduceBEq, s8], by simp (disch := first | (simp only [go_sem, gb0, eq_self]; done) | omega | (simp only [gl1, gl2]; omega)) only [go_sem, ↓reduceIte, Nat.reduceEqDiff, Nat.reduceAdd, Nat.reduceMul, Nat.reduceSub, Int.reduceToNat, Nat.reduceBEq, s24], by simp (disch := first | (simp only [go_sem, gb0, eq_self]; done) | omega | (simp only [gl1, gl2]; omega)) only [go_sem, ↓reduceIte, Nat.reduceEqDiff, Nat.reduceAdd, Nat.reduceMul, Nat.reduceSub, Int.reduceToNat, Nat.reduceBEq, s9, q1'], gn, by simp [upd, Hp.put, Hp.alloc, g0], by simp [upd, Hp.put, Hp.alloc, g1], by simp [upd, Hp.put, Hp.alloc]⟩
  rintro st g ⟨s0, s2, s3, s4, s5, s6, s8, gn, g1, g2⟩
  have hld : ∀ X : Mat, loadC (some (.array 4 119)) (some 20) (some (matA X, 0)) = some (.agg (matA X)) := fun X => by
    rw [loadC_agg (.array 4 119) 20 rfl _ _ (by rw [matA_len]; omega), List.drop_zero, List.take_of_length_le (by rw [matA_len]; omega)]
  have zsm : ∀ (g : Hp) (X : Mat), sealA g (.agg (matA X)) = some (.agg (matA X), g) := fun g X => sealA_agg _ (matA_pure X)
  have k83 := fun h h' K (rep : Int) => ConW_num (h := h) (h' := h') (K := K) (f83_con (n := m) (X := XS a m s) (rep := rep) hm4 (fun r c => XP_b T hl _ _ _)) rfl
  have kd := k83
  have hst : ∀ (g : Hp) (id : Nat) (d : Int), storeC g id 0 10 (some (.cells false false (zc 0))) (zc d) = some (.skp, g.put id (some (.cells false false (zc d)))) := fun g id d => store10 id _ _ rfl rfl rfl
  have hd0 : det m (repM (XS a m s) (-1)) = den0 a m s := rfl
  have bd := num0_b T hl (-1)
  have hl10 := ld10
  simp only [und103] at hl10
  have hl10z := fun d => hl10 (zc d) rfl
  by_cases hz : den0 a m s = 0
  · have hok : okCor a m n s = false := by simp [okCor, hz]
    simp (disch := first | (simp only [go_sem, gb0, eq_self]; done) | omega | (simp only [gl1, gl2]; omega)) only [go_sem, ↓reduceIte, Nat.reduceEqDiff, Nat.reduceAdd, Nat.reduceMul, Nat.reduceSub, Int.reduceToNat, Nat.reduceBEq, s0, s2, s3, s4, s5, s6, s8, gn, g1, g2, hld, zsm, k83, hd0, hal4, hst, zc_1, hz]
    refine ⟨.tup [.agg (zc 0), .bool (okCor a m n s)], ⟨_, rfl, ⟨_, rfl, rfl, rfl⟩, fun h => by rw [hok] at h; cases h⟩, ?_⟩
    rw [hok]
    have zp : ∀ g : Hp, sealA g (.agg (zc 0)) = some (.agg (zc 0), g) := fun g => sealA_agg _ rfl
    simp (disch := first | (simp only [go_sem, gb0, eq_self]; done) | omega | (simp only [gl1, gl2]; omega)) only [go_sem, ↓reduceIte, Nat.reduceEqDiff, Nat.reduceAdd, Nat.reduceMul, Nat.reduceSub, Int.reduceToNat, Nat.reduceBEq, s4, hl10z, zp]
  · simp (disch := first | (simp only [go_sem, gb0, eq_self]; done) | omega | (simp only [gl1, gl2]; omega)) only [go_sem, ↓reduceIte, Nat.reduceEqDiff, Nat.reduceAdd, Nat.reduceMul, Nat.reduceSub, Int.reduceToNat, Nat.reduceBEq, s0, s2, s3, s4, s5, s6, s8, gn, g1, g2, hld, zsm, k83, hd0, hal4, hst, zc_1, hz]
    have hnum : ∀ i : Nat, det m (repM (XS a m s) i) = num0 a m s i := fun i => rfl
    refine WP_cut (fun st g => st 0 = LLI a ∧ st 2 = .skp ∧ st 3 = .ptr 0 0 ∧ st 4 = .ptr 1 0 ∧ st 5 = .bool false ∧ st 6 = I m ∧ st 8 = .ptr 2 0 ∧ st 12 = .ptr 3 0 ∧ 3 < g.nx ∧ g.bl 1 = some (.cells false false (zc 0)) ∧ ∃ id, 3 < id ∧ id < g.nx ∧ g.bl 3 = some (cbl (.sl id 0 m 1) (den0 a m s) (List.replicate 8 false)) ∧ g.bl id = some (.cells false true ((nums0 a m s).flatMap (e1 I)))) ?_ ?_
    · refine WP_for 75 m (fun i st g => st 0 = LLI a ∧ st 2 = .skp ∧ st 3 = .ptr 0 0 ∧ st 4 = .ptr 1 0 ∧ st 5 = .bool false ∧ st 6 = I m ∧ st 8 = .ptr 2 0 ∧ st 12 = .ptr 3 0 ∧ st 74 = I m ∧ 3 < g.nx ∧ g.bl 1 = some (.cells false false (zc 0)) ∧ g.bl 2 = some (.cells false false (matA (XS a m s))) ∧ ∃ v, g.bl 3 = some (cbl v (den0 a m s) (List.replicate 8 false)) ∧ Go.Am.Own (e1 I) 1 g v ((List.range i).map (num0 a m s)) ∧ ∀ id o n z, v = .sl id o n z → 3 < id) (by simp (disch := first | (simp only [go_sem, gb0, eq_self]; done) | omega | (simp only [gl1, gl2]; omega)) only [go_sem, ↓reduceIte, Nat.reduceEqDiff, Nat.reduceAdd, Nat.reduceMul, Nat.reduceSub, Int.reduceToNat, Nat.reduceBEq])
        ⟨by simp (disch := first | (simp only [go_sem, gb0, eq_self]; done) | omega | (simp only [gl1, gl2]; omega)) only [go_sem, ↓reduceIte, Nat.reduceEqDiff, Nat.reduceAdd, Nat.reduceMul, Nat.reduceSub, Int.reduceToNat, Nat.reduceBEq, s0, s2, s3, s4, s5, s6, s8, gn], by simp (disch := first | (simp only [go_sem, gb0, eq_self]; done) | omega | (simp only [gl1, gl2]; omega)) only [go_sem, ↓reduceIte, Nat.reduceEqDiff, Nat.reduceAdd, Nat.reduceMul, Nat.reduceSub, Int.reduceToNat, Nat.reduceBEq, s0, s2, s3, s4, s5, s6, s8, gn], by simp (disch := first | (simp only [go_sem, gb0, eq_self]; done) | omega | (simp only [gl1, gl2]; omega)) only [go_sem, ↓reduceIte, Nat.reduceEqDiff, Nat.reduceAdd, Nat.reduceMul, Nat.reduceSub, Int.reduceToNat, Nat.reduceBEq, s0, s2, s3, s4, s5, s6, s8, gn], by simp (disch := first | (simp only [go_sem, gb0, eq_self]; done) | omega | (simp only [gl1, gl2]; omega)) only [go_sem, ↓reduceIte, Nat.reduceEqDiff, Nat.reduceAdd, Nat.reduceMul, Nat.reduceSub, Int.reduceToNat, Nat.reduceBEq, s0, s2, s3, s4, s5, s6, s8, gn], by simp (disch := first | (simp only [go_sem, gb0, eq_self]; done) | omega | (simp only [gl1, gl2]; omega)) only [go_sem, ↓reduceIte, Nat.reduceEqDiff, Nat.reduceAdd, Nat.reduceMul, Nat.reduceSub, Int.reduceToNat, Nat.reduceBEq, s0, s2, s3, s4, s5, s6, s8, gn], by simp (disch := first | (simp only [go_sem, gb0, eq_self]; done) | omega | (simp only [gl1, gl2]; omega)) only [go_sem, ↓reduceIte, Nat.reduceEqDiff, Nat.reduceAdd, Nat.reduceMul, Nat.reduceSub, Int.reduceToNat, Nat.reduceBEq, s0, s2, s3, s4, s5, s6, s8, gn], by simp (disch := first | (simp only [go_sem, gb0, eq_self]; done) | omega | (simp only [gl1, gl2]; omega)) only [go_sem, ↓reduceIte, Nat.reduceEqDiff, Nat.reduceAdd, Nat.reduceMul, Nat.reduceSub, Int.reduceToNat, Nat.reduceBEq, s0, s2, s3, s4, s5, s6, s8, gn], by simp (disch := first | (simp only [go_sem, gb0, eq_self]; done) | omega | (simp only [gl1, gl2]; omega)) only [go_sem, ↓reduceIte, Nat.reduceEqDiff, Nat.reduceAdd, Nat.reduceMul, Nat.reduceSub, Int.reduceToNat, Nat.reduceBEq, s0, s2, s3, s4, s5, s6, s8, gn], by simp (disch := first | (simp only [go_sem, gb0, eq_self]; done) | omega | (simp only [gl1, gl2]; omega)) only [go_sem, ↓reduceIte, Nat.reduceEqDiff, Nat.reduceAdd, Nat.reduceMul, Nat.reduceSub, Int.reduceToNat, Nat.reduceBEq, s0, s2, s3, s4, s5, s6, s8, gn], by simp [upd, Hp.put, Hp.alloc, gn], by simp [upd, Hp.put, Hp.alloc, gn, g1], by simp [upd, Hp.put, Hp.alloc, gn, g2], .nil, by rw [put_bl, if_pos rfl]; rfl, .inl ⟨rfl, rfl⟩, fun _ _ _ _ h => by cases h⟩ ?_
      clear s0 s2 s3 s4 s5 s6 s8 gn g1 g2
      rintro i st g hi s75 ⟨s0, s2, s3, s4, s5, s6, s8, s12, s74, gn, g1, g2, v, g3, ov, hid⟩
      have hlen : ((List.range i).map (num0 a m s)).length = i := by simp
      by_cases hlm : i < m
      case neg =>
        have hie : i = m := by omega
        subst hie
        simp (disch := first | (simp only [go_sem, gb0, eq_self]; done) | omega | (simp only [gl1, gl2]; omega)) only [go_sem, ↓reduceIte, Nat.reduceEqDiff, Nat.reduceAdd, Nat.reduceMul, Nat.reduceSub, Int.reduceToNat, Nat.reduceBEq, s0, s2, s3, s4, s5, s6, s8, s12, s74, s75, hlm]
        rcases ov with ⟨_, hnil⟩ | ⟨id, rfl, hlt, hbl⟩
        · rw [hnil] at hlen; simp at hlen; omega
        · rw [hlen] at g3
          exact ⟨gn, g1, id, hid _ _ _ _ rfl, hlt, g3, hbl⟩
      have hlm' : (i : Int) < m := by omega
      obtain ⟨f1, f2, f3⟩ := app_facts ov (num0 a m s i)
      have hap := app_one (P := Try.prog) ov 3 8 (I 0) (num0 a m s i) isz3 ibytes3 izero3 rfl (by rw [hlen]; omega) (by rw [hlen]; omega)
      have hapv : appV g ((List.range i).map (num0 a m s) ++ [num0 a m s i]).length 1 = .sl g.nx 0 (i + 1) 1 := by rw [List.length_append, hlen]; rfl
      rw [hapv] at hap
      have h3 := f3 3 gn fun id o n z e => by have := hid id o n z e; omega
      have h1 := f3 1 (by omega) fun id o n z e => by have := hid id o n z e; omega
      have h2 := f3 2 (by omega) fun id o n z e => by have := hid id o n z e; omega
      generalize hG : appH g v (((List.range i).map (num0 a m s) ++ [num0 a m s i]).flatMap (e1 I)) = G at *
      have hvc : v.isCell = true := by
        rcases ov with ⟨rfl, _⟩ | ⟨id, rfl, _, _⟩ <;> rfl
      have hs3 : storeC G 3 0 1 (some (cbl v (den0 a m s) (List.replicate 8 false))) [.sl g.nx 0 (i + 1) 1] = some (.skp, G.put 3 (some (cbl (.sl g.nx 0 (i + 1) 1) (den0 a m s) (List.replicate 8 false)))) := by
        rw [storeC_one 3 0 false _ (.sl g.nx 0 (i + 1) 1) rfl (by simp)]; rfl
      have h3' := h3.trans g3
      have l3 : 3 < g.nx := gn
      have l2 : 2 < g.nx := by omega
      simp (disch := first | (simp only [go_sem, gb0, eq_self]; done) | omega | (simp only [gl1, gl2]; omega)) only [go_sem, ↓reduceIte, Nat.reduceEqDiff, Nat.reduceAdd, Nat.reduceMul, Nat.reduceSub, Int.reduceToNat, Nat.reduceBEq, s0, s2, s3, s4, s5, s6, s8, s12, s74, s75, hlm, hlm', g3, g2, hld, zsm, k83, hnum, bs31, hap, h3', hs3]
      rw [ForK_normal]
      refine ⟨hlm, by simp (disch := first | (simp only [go_sem, gb0, eq_self]; done) | omega | (simp only [gl1, gl2]; omega)) only [go_sem, ↓reduceIte, Nat.reduceEqDiff, Nat.reduceAdd, Nat.reduceMul, Nat.reduceSub, Int.reduceToNat, Nat.reduceBEq, s75], by simp (disch := first | (simp only [go_sem, gb0, eq_self]; done) | omega | (simp only [gl1, gl2]; omega)) only [go_sem, ↓reduceIte, Nat.reduceEqDiff, Nat.reduceAdd, Nat.reduceMul, Nat.reduceSub, Int.reduceToNat, Nat.reduceBEq, s0], by simp (disch := first | (simp only [go_sem, gb0, eq_self]; done) | omega | (simp only [gl1, gl2]; omega)) only [go_sem, ↓reduceIte, Nat.reduceEqDiff, Nat.reduceAdd, Nat.reduceMul, Nat.reduceSub, Int.reduceToNat, Nat.reduceBEq, s2], by simp (disch := first | (simp only [go_sem, gb0, eq_self]; done) | omega | (simp only [gl1, gl2]; omega)) only [go_sem, ↓reduceIte, Nat.reduceEqDiff, Nat.reduceAdd, Nat.reduceMul, Nat.reduceSub, Int.reduceToNat, Nat.reduceBEq, s3], by simp (disch := first | (simp only [go_sem, gb0, eq_self]; done) | omega | (simp only [gl1, gl2]; omega)) only [go_sem, ↓reduceIte, Nat.reduceEqDiff, Nat.reduceAdd, Nat.reduceMul, Nat.reduceSub, Int.reduceToNat, Nat.reduceBEq, s4], by simp (disch := first | (simp only [go_sem, gb0, eq_self]; done) | omega | (simp only [gl1, gl2]; omega)) only [go_sem, ↓reduceIte, Nat.reduceEqDiff, Nat.reduceAdd, Nat.reduceMul, Nat.reduceSub, Int.reduceToNat, Nat.reduceBEq, s5], by simp (disch := first | (simp only [go_sem, gb0, eq_self]; done) | omega | (simp only [gl1, gl2]; omega)) only [go_sem, ↓reduceIte, Nat.reduceEqDiff, Nat.reduceAdd, Nat.reduceMul, Nat.reduceSub, Int.reduceToNat, Nat.reduceBEq, s6], by simp (disch := first | (simp only [go_sem, gb0, eq_self]; done) | omega | (simp only [gl1, gl2]; omega)) only [go_sem, ↓reduceIte, Nat.reduceEqDiff, Nat.reduceAdd, Nat.reduceMul, Nat.reduceSub, Int.reduceToNat, Nat.reduceBEq, s8], by simp (disch := first | (simp only [go_sem, gb0, eq_self]; done) | omega | (simp only [gl1, gl2]; omega)) only [go_sem, ↓reduceIte, Nat.reduceEqDiff, Nat.reduceAdd, Nat.reduceMul, Nat.reduceSub, Int.reduceToNat, Nat.reduceBEq, s12], by simp (disch := first | (simp only [go_sem, gb0, eq_self]; done) | omega | (simp only [gl1, gl2]; omega)) only [go_sem, ↓reduceIte, Nat.reduceEqDiff, Nat.reduceAdd, Nat.reduceMul, Nat.reduceSub, Int.reduceToNat, Nat.reduceBEq, s74], by simp [upd, Hp.put, Hp.alloc, f1]; omega, by simp [upd, Hp.put, Hp.alloc]; exact h1.trans g1, by simp [upd, Hp.put, Hp.alloc]; exact h2.trans g2, .sl g.nx 0 (i + 1) 1, by rw [put_bl, if_pos rfl], .inr ⟨g.nx, by rw [List.length_map, List.length_range], by show g.nx < G.nx; omega, ?_⟩, fun id o n z e => by cases e; exact gn⟩
      rw [put_bl, if_neg (by omega), f2, nums0_succ]
    clear s0 s2 s3 s4 s5 s6 s8 gn g1 g2
    rintro st g ⟨s0, s2, s3, s4, s5, s6, s8, s12, gn, g1, id, hid, hidl, g3, gI⟩
    have hst1 : ∀ (g : Hp) (v : AV) (d e : Int), storeC g 3 1 1 (some (cbl v d (List.replicate 8 false))) [I e] = some (.skp, g.put 3 (some (cbl v e (List.replicate 8 false)))) := fun g v d e => by
      rw [storeC_one 3 1 false _ (I e) rfl (by simp only [List.length_cons]; omega)]; rfl
    have nn : ∀ i, i < m → nth (nums0 a m s) i = num0 a m s i := fun i hi => nth_map_range _ _ _ hi
    simp (disch := first | (simp only [go_sem, gb0, eq_self]; done) | omega | (simp only [gl1, gl2]; omega)) only [go_sem, ↓reduceIte, Nat.reduceEqDiff, Nat.reduceAdd, Nat.reduceMul, Nat.reduceSub, Int.reduceToNat, Nat.reduceBEq, s0, s2, s3, s4, s5, s6, s8, s12, g3]
    refine condW_join (fun st g => st 0 = LLI a ∧ st 2 = .skp ∧ st 3 = .ptr 0 0 ∧ st 4 = .ptr 1 0 ∧ st 5 = .bool false ∧ st 6 = I m ∧ st 8 = .ptr 2 0 ∧ st 12 = .ptr 3 0 ∧ 3 < g.nx ∧ g.bl 1 = some (.cells false false (zc 0)) ∧ id < g.nx ∧ g.bl 3 = some (cbl (.sl id 0 m 1) (denC a m s) (List.replicate 8 false)) ∧ g.bl id = some (.cells false true ((numsC a m s).flatMap (e1 I)))) (fun hng => ?_) (fun hng => ?_) ?_
    · have hdc : denC a m s = 0 - den0 a m s := by rw [denC, if_pos hng]; omega
      have hnc : numsC a m s = negL a m s m := by
        unfold numsC negL
        refine List.map_congr_left fun i hi => ?_
        rw [if_pos hng, if_pos (List.mem_range.1 hi)]
      have u3 : ¬ id = 3 := by omega
      have bd' : -723394816 ≤ den0 a m s ∧ den0 a m s ≤ 723394816 := bd
      simp (disch := first | (simp only [go_sem, gb0, eq_self]; done) | omega | (simp only [gl1, gl2]; omega)) only [go_sem, ↓reduceIte, Nat.reduceEqDiff, Nat.reduceAdd, Nat.reduceMul, Nat.reduceSub, Int.reduceToNat, Nat.reduceBEq, s0, s2, s3, s4, s5, s6, s8, s12, g3, hst1]
      refine WP_for 104 m (fun i st g => st 0 = LLI a ∧ st 2 = .skp ∧ st 3 = .ptr 0 0 ∧ st 4 = .ptr 1 0 ∧ st 5 = .bool false ∧ st 6 = I m ∧ st 8 = .ptr 2 0 ∧ st 12 = .ptr 3 0 ∧ st 103 = I m ∧ 3 < g.nx ∧ g.bl 1 = some (.cells false false (zc 0)) ∧ id < g.nx ∧ g.bl 3 = some (cbl (.sl id 0 m 1) (0 - den0 a m s) (List.replicate 8 false)) ∧ g.bl id = some (.cells false true ((negL a m s i).flatMap (e1 I)))) (by simp (disch := first | (simp only [go_sem, gb0, eq_self]; done) | omega | (simp only [gl1, gl2]; omega)) only [go_sem, ↓reduceIte, Nat.reduceEqDiff, Nat.reduceAdd, Nat.reduceMul, Nat.reduceSub, Int.reduceToNat, Nat.reduceBEq])
        ⟨by simp (disch := first | (simp only [go_sem, gb0, eq_self]; done) | omega | (simp only [gl1, gl2]; omega)) only [go_sem, ↓reduceIte, Nat.reduceEqDiff, Nat.reduceAdd, Nat.reduceMul, Nat.reduceSub, Int.reduceToNat, Nat.reduceBEq, s0, s2, s3, s4, s5, s6, s8, s12], by simp (disch := first | (simp only [go_sem, gb0, eq_self]; done) | omega | (simp only [gl1, gl2]; omega)) only [go_sem, ↓reduceIte, Nat.reduceEqDiff, Nat.reduceAdd, Nat.reduceMul, Nat.reduceSub, Int.reduceToNat, Nat.reduceBEq, s0, s2, s3, s4, s5, s6, s8, s12], by simp (disch := first | (simp only [go_sem, gb0, eq_self]; done) | omega | (simp only [gl1, gl2]; omega)) only [go_sem, ↓reduceIte, Nat.reduceEqDiff, Nat.reduceAdd, Nat.reduceMul, Nat.reduceSub, Int.reduceToNat, Nat.reduceBEq, s0, s2, s3, s4, s5, s6, s8, s12], by simp (disch := first | (simp only [go_sem, gb0, eq_self]; done) | omega | (simp only [gl1, gl2]; omega)) only [go_sem, ↓reduceIte, Nat.reduceEqDiff, Nat.reduceAdd, Nat.reduceMul, Nat.reduceSub, Int.reduceToNat, Nat.reduceBEq, s0, s2, s3, s4, s5, s6, s8, s12], by simp (disch := first | (simp only [go_sem, gb0, eq_self]; done) | omega | (simp only [gl1, gl2]; omega)) only [go_sem, ↓reduceIte, Nat.reduceEqDiff, Nat.reduceAdd, Nat.reduceMul, Nat.reduceSub, Int.reduceToNat, Nat.reduceBEq, s0, s2, s3, s4, s5, s6, s8, s12], by simp (disch := first | (simp only [go_sem, gb0, eq_self]; done) | omega | (simp only [gl1, gl2]; omega)) only [go_sem, ↓reduceIte, Nat.reduceEqDiff, Nat.reduceAdd, Nat.reduceMul, Nat.reduceSub, Int.reduceToNat, Nat.reduceBEq, s0, s2, s3, s4, s5, s6, s8, s12], by simp (disch := first | (simp only [go_sem, gb0, eq_self]; done) | omega | (simp only [gl1, gl2]; omega)) only [go_sem, ↓reduceIte, Nat.reduceEqDiff, Nat.reduceAdd, Nat.reduceMul, Nat.reduceSub, Int.reduceToNat, Nat.reduceBEq, s0, s2, s3, s4, s5, s6, s8, s12], by simp (disch := first | (simp only [go_sem, gb0, eq_self]; done) | omega | (simp only [gl1, gl2]; omega)) only [go_sem, ↓reduceIte, Nat.reduceEqDiff, Nat.reduceAdd, Nat.reduceMul, Nat.reduceSub, Int.reduceToNat, Nat.reduceBEq, s0, s2, s3, s4, s5, s6, s8, s12], by simp (disch := first | (simp only [go_sem, gb0, eq_self]; done) | omega | (simp only [gl1, gl2]; omega)) only [go_sem, ↓reduceIte, Nat.reduceEqDiff, Nat.reduceAdd, Nat.reduceMul, Nat.reduceSub, Int.reduceToNat, Nat.reduceBEq, s0, s2, s3, s4, s5, s6, s8, s12], gn, by simp [upd, Hp.put, Hp.alloc, g1], hidl, by simp [upd, Hp.put, Hp.alloc], by simp [upd, Hp.put, Hp.alloc, u3, gI]; rfl⟩ ?_
      clear s0 s2 s3 s4 s5 s6 s8 s12 gn g1 g3 gI hidl
      rintro i st g hi s104 ⟨s0, s2, s3, s4, s5, s6, s8, s12, s103, gn, g1, hidl, g3, gI⟩
      by_cases hlm : i < m
      case neg =>
        have hie : i = m := by omega
        subst hie
        simp (disch := first | (simp only [go_sem, gb0, eq_self]; done) | omega | (simp only [gl1, gl2]; omega)) only [go_sem, ↓reduceIte, Nat.reduceEqDiff, Nat.reduceAdd, Nat.reduceMul, Nat.reduceSub, Int.reduceToNat, Nat.reduceBEq, s0, s2, s3, s4, s5, s6, s8, s12, s103, s104, hlm]
        exact ⟨gn, g1, hidl, by rw [g3, hdc], by rw [gI, hnc]⟩
      have hlm' : (i : Int) < m := by omega
      have bi := num0_b T hl i
      rw [hnum] at bi
      have hli : i < (negL a m s i).length := by rw [negL_len]; exact hlm
      have ei : ((negL a m s i).flatMap (e1 I))[i]? = some (I (num0 a m s i)) := by
        rw [flat_get _ _ _ hli, negL, nth_map_range _ _ _ hlm, if_neg (by omega)]
      have hset : (negL a m s i).set i (0 - num0 a m s i) = negL a m s (i + 1) := by rw [Int.zero_sub]; exact negL_set hlm
      simp (disch := first | (simp only [go_sem, gb0, eq_self]; done) | omega | (simp only [gl1, gl2]; omega)) only [go_sem, ↓reduceIte, Nat.reduceEqDiff, Nat.reduceAdd, Nat.reduceMul, Nat.reduceSub, Int.reduceToNat, Nat.reduceBEq, s0, s2, s3, s4, s5, s6, s8, s12, s103, s104, hlm, hlm', g3, gI, ei, hli, hset]
      rw [ForK_normal]
      have u1 : ¬ (1 : Nat) = id := by omega
      have u3' : ¬ (3 : Nat) = id := by omega
      exact ⟨hlm, by simp (disch := first | (simp only [go_sem, gb0, eq_self]; done) | omega | (simp only [gl1, gl2]; omega)) only [go_sem, ↓reduceIte, Nat.reduceEqDiff, Nat.reduceAdd, Nat.reduceMul, Nat.reduceSub, Int.reduceToNat, Nat.reduceBEq, s104], by simp (disch := first | (simp only [go_sem, gb0, eq_self]; done) | omega | (simp only [gl1, gl2]; omega)) only [go_sem, ↓reduceIte, Nat.reduceEqDiff, Nat.reduceAdd, Nat.reduceMul, Nat.reduceSub, Int.reduceToNat, Nat.reduceBEq, s0], by simp (disch := first | (simp only [go_sem, gb0, eq_self]; done) | omega | (simp only [gl1, gl2]; omega)) only [go_sem, ↓reduceIte, Nat.reduceEqDiff, Nat.reduceAdd, Nat.reduceMul, Nat.reduceSub, Int.reduceToNat, Nat.reduceBEq, s2], by simp (disch := first | (simp only [go_sem, gb0, eq_self]; done) | omega | (simp only [gl1, gl2]; omega)) only [go_sem, ↓reduceIte, Nat.reduceEqDiff, Nat.reduceAdd, Nat.reduceMul, Nat.reduceSub, Int.reduceToNat, Nat.reduceBEq, s3], by simp (disch := first | (simp only [go_sem, gb0, eq_self]; done) | omega | (simp only [gl1, gl2]; omega)) only [go_sem, ↓reduceIte, Nat.reduceEqDiff, Nat.reduceAdd, Nat.reduceMul, Nat.reduceSub, Int.reduceToNat, Nat.reduceBEq, s4], by simp (disch := first | (simp only [go_sem, gb0, eq_self]; done) | omega | (simp only [gl1, gl2]; omega)) only [go_sem, ↓reduceIte, Nat.reduceEqDiff, Nat.reduceAdd, Nat.reduceMul, Nat.reduceSub, Int.reduceToNat, Nat.reduceBEq, s5], by simp (disch := first | (simp only [go_sem, gb0, eq_self]; done) | omega | (simp only [gl1, gl2]; omega)) only [go_sem, ↓reduceIte, Nat.reduceEqDiff, Nat.reduceAdd, Nat.reduceMul, Nat.reduceSub, Int.reduceToNat, Nat.reduceBEq, s6], by simp (disch := first | (simp only [go_sem, gb0, eq_self]; done) | omega | (simp only [gl1, gl2]; omega)) only [go_sem, ↓reduceIte, Nat.reduceEqDiff, Nat.reduceAdd, Nat.reduceMul, Nat.reduceSub, Int.reduceToNat, Nat.reduceBEq, s8], by simp (disch := first | (simp only [go_sem, gb0, eq_self]; done) | omega | (simp only [gl1, gl2]; omega)) only [go_sem, ↓reduceIte, Nat.reduceEqDiff, Nat.reduceAdd, Nat.reduceMul, Nat.reduceSub, Int.reduceToNat, Nat.reduceBEq, s12], by simp (disch := first | (simp only [go_sem, gb0, eq_self]; done) | omega | (simp only [gl1, gl2]; omega)) only [go_sem, ↓reduceIte, Nat.reduceEqDiff, Nat.reduceAdd, Nat.reduceMul, Nat.reduceSub, Int.reduceToNat, Nat.reduceBEq, s103], gn, by simp [upd, Hp.put, Hp.alloc, u1]; exact g1, hidl, by rw [put_bl, if_neg u3']; exact g3, by simp [upd, Hp.put, Hp.alloc]⟩
    · have hdc : denC a m s = den0 a m s := by rw [denC, if_neg hng]
      have hnc : numsC a m s = nums0 a m s := by
        unfold numsC nums0
        refine List.map_congr_left fun i hi => ?_
        rw [if_neg hng]
      simp (disch := first | (simp only [go_sem, gb0, eq_self]; done) | omega | (simp only [gl1, gl2]; omega)) only [go_sem, ↓reduceIte, Nat.reduceEqDiff, Nat.reduceAdd, Nat.reduceMul, Nat.reduceSub, Int.reduceToNat, Nat.reduceBEq]
      exact ⟨s0, s2, s3, s4, s5, s6, s8, s12, gn, g1, hidl, by rw [g3, hdc], by rw [gI, hnc]⟩
    · clear s0 s2 s3 s4 s5 s6 s8 s12 gn g1 g3 gI hidl
      rintro st g ⟨s0, s2, s3, s4, s5, s6, s8, s12, gn, g1, hidl, g3, gI⟩
      have hnl : (numsC a m s).length = m := by simp [numsC]
      obtain ⟨G, hs, f1, f2, d, bs, f3, f4, f5⟩ := f84_shr (h := g) T (xs := numsC a m s) (den := denC a m s) (C := 3) (id := id) hnl (numsC_b T hl) (by omega) gn g3 gI
      have hcl := fun K => CallW_shr (K := K) 84 _ shr84 hs
      have hokc : okCor a m n s = okLab a m n (numsC a m s) (denC a m s) := by simp [okCor, hz]
      rw [← hokc] at hcl f5
      have hcb : ((.sl id 0 m 1) :: I d :: bs.flatMap (e1 AV.bool)).length = 10 := cb_len _ _ f4
      have hl10c := hl10 _ hcb
      have hca : ((.sl id 0 m 1) :: I d :: bs.flatMap (e1 AV.bool)).all AV.isCell = true := by
        rw [List.all_cons, List.all_cons, List.all_eq_true.2 fun y hy => ?_]
        · rfl
        · obtain ⟨b, _, hb⟩ := List.mem_flatMap.1 hy
          simp only [e1, List.mem_singleton] at hb
          rw [hb]; rfl
      have hcaL : (LI (numsC a m s) :: I d :: bs.flatMap (e1 AV.bool)).all AV.isCell = true := by
        rw [List.all_cons, List.all_cons, List.all_eq_true.2 fun y hy => ?_]
        · rfl
        · obtain ⟨b, _, hb⟩ := List.mem_flatMap.1 hy
          simp only [e1, List.mem_singleton] at hb
          rw [hb]; rfl
      have hst10 : storeC G 1 0 10 (some (.cells false false (zc 0))) ((.sl id 0 m 1) :: I d :: bs.flatMap (e1 AV.bool)) = some (.skp, G.put 1 (some (.cells false false ((.sl id 0 m 1) :: I d :: bs.flatMap (e1 AV.bool))))) := store10 1 _ _ rfl hcb hca
      have G1 := (f2 1 (by decide)).trans g1
      have GI := (f2 id (by omega)).trans gI
      simp (disch := first | (simp only [go_sem, gb0, eq_self]; done) | omega | (simp only [gl1, gl2]; omega)) only [go_sem, ↓reduceIte, Nat.reduceEqDiff, Nat.reduceAdd, Nat.reduceMul, Nat.reduceSub, Int.reduceToNat, Nat.reduceBEq, s0, s2, s3, s4, s5, s6, s8, s12]
      refine Eq.mpr (hcl _) ?_
      simp (disch := first | (simp only [go_sem, gb0, eq_self]; done) | omega | (simp only [gl1, gl2]; omega)) only [go_sem, ↓reduceIte, Nat.reduceEqDiff, Nat.reduceAdd, Nat.reduceMul, Nat.reduceSub, Int.reduceToNat, Nat.reduceBEq, s0, s2, s3, s4, s5, s6, s8, s12, f3, hl10c, G1, hst10]
      obtain ⟨G', hsl⟩ := seal_corner (h := G.put 1 (some (.cells false false ((.sl id 0 m 1) :: I d :: bs.flatMap (e1 AV.bool))))) (id := id) (xs := numsC a m s) (d := d) (bs := bs) (by rw [put_bl, if_neg (by omega)]; exact GI)
      rw [hnl] at hsl
      refine ⟨.tup [corA (numsC a m s) d bs, .bool (okCor a m n s)], ⟨_, rfl, ⟨_, rfl, cb_len _ _ f4, hcaL⟩, fun h => ?_⟩, ?_⟩
      · obtain ⟨rfl, rfl⟩ := f5 h; rfl
      · simp (disch := first | (simp only [go_sem, gb0, eq_self]; done) | omega | (simp only [gl1, gl2]; omega)) only [go_sem, ↓reduceIte, Nat.reduceEqDiff, Nat.reduceAdd, Nat.reduceMul, Nat.reduceSub, Int.reduceToNat, Nat.reduceBEq, s4, hl10c, hsl]
end Go.Proofs.Ytcdpkgmkckfonaa

set_option linter.unusedVariables false
set_option linter.unusedSimpArgs false
set_option maxRecDepth 10000
namespace Go.Proofs.Ytcdpkgmkckfonaa
open Go Go.Am

variable {h h' : Hp} {K : AV → Hp → Prop}

def fitsB (bs cs : List Bool) (m n : Nat) : Bool := (List.range m).all (fun i => nth bs i || nth cs (n + i)) && (List.range n).all (fun j => nth bs (m + j) || nth cs j)
theorem cb_get (v w : AV) {bs : List Bool} {i : Nat} (hi : i < bs.length) : (v :: w :: bs.flatMap (e1 AV.bool))[2 + i]? = some (.bool (nth bs i)) := by
  rw [Nat.add_comm, List.getElem?_cons_succ, List.getElem?_cons_succ, flat_get _ _ _ hi]
theorem f69_con {m n : Nat} (hm : m ≤ 4) (hn : n ≤ 4) {xs ys : List Int} {d e : Int} {bs cs : List Bool} (hb : bs.length = 8) (hc : cs.length = 8) : Con Try.prog cfg 69 [corA xs d bs, corA ys e cs, I m, I n] (.bool (fitsB bs cs m n)) := by
  have hall : ∀ (xs : List Int) (d : Int) (bs : List Bool), (LI xs :: I d :: bs.flatMap (e1 AV.bool)).all AV.isCell = true := fun xs d bs => by
    rw [List.all_cons, List.all_cons, List.all_eq_true.2 fun y hy => ?_]
    · rfl
    · obtain ⟨b, _, hb⟩ := List.mem_flatMap.1 hy
      simp only [e1, List.mem_singleton] at hb
      rw [hb]; rfl
  have hal : ∀ (g : Hp) (xs : List Int) (d : Int) (bs : List Bool), allocB g (some (corA xs d bs)) = some (.ptr g.nx 0, g.alloc (.cells false false (LI xs :: I d :: bs.flatMap (e1 AV.bool)))) := fun g xs d bs => allocB_agg _ (hall _ _ _)
  refine Con_intro Try.func69 rfl ok69 (Nat.le_of_ble_eq_true rfl) rfl ?_
  simp only [Try.f69, Option.getD_some, initSt4]
  simp (disch := first | (simp only [go_sem, gb0, eq_self]; done) | omega | (simp only [gl1, gl2]; omega)) only [go_sem, ↓reduceIte, Nat.reduceEqDiff, Nat.reduceAdd, Nat.reduceMul, Nat.reduceSub, Int.reduceToNat, Nat.reduceBEq, hal]
  refine WP_cut (fun st g => st 2 = I m ∧ st 3 = I n ∧ st 4 = .ptr 0 0 ∧ st 5 = .ptr 1 0 ∧ st 8 = .bool false ∧ g.bl 0 = some (.cells false false (LI xs :: I d :: bs.flatMap (e1 AV.bool))) ∧ g.bl 1 = some (.cells false false (LI ys :: I e :: cs.flatMap (e1 AV.bool))) ∧ ∀ k, k < m → (nth bs k || nth cs (n + k)) = true) ?_ ?_
  · refine WP_for 12 m (fun i st g => st 2 = I m ∧ st 3 = I n ∧ st 4 = .ptr 0 0 ∧ st 5 = .ptr 1 0 ∧ st 8 = .bool false ∧ st 11 = I m ∧ g.bl 0 = some (.cells false false (LI xs :: I d :: bs.flatMap (e1 AV.bool))) ∧ g.bl 1 = some (.cells false false (LI ys :: I e :: cs.flatMap (e1 AV.bool))) ∧ ∀ k, k < i → (nth bs k || nth cs (n + k)) = true) (by simp (disch := first | (simp only [go_sem, gb0, eq_self]; done) | omega | (simp only [gl1, gl2]; omega)) only [go_sem, ↓reduceIte, Nat.reduceEqDiff, Nat.reduceAdd, Nat.reduceMul, Nat.reduceSub, Int.reduceToNat, Nat.reduceBEq]) ⟨by simp (disch := first | (simp only [go_sem, gb0, eq_self]; done) | omega | (simp only [gl1, gl2]; omega)) only [go_sem, ↓reduceIte, Nat.reduceEqDiff, Nat.reduceAdd, Nat.reduceMul, Nat.reduceSub, Int.reduceToNat, Nat.reduceBEq], by simp (disch := first | (simp only [go_sem, gb0, eq_self]; done) | omega | (simp only [gl1, gl2]; omega)) only [go_sem, ↓reduceIte, Nat.reduceEqDiff, Nat.reduceAdd, Nat.reduceMul, Nat.reduceSub, Int.reduceToNat, Nat.reduceBEq], by simp (disch := first | (simp only [go_sem, gb0, eq_self]; done) | omega | (simp only [gl1, gl2]; omega)) only [go_sem, ↓reduceIte, Nat.reduceEqDiff, Nat.reduceAdd, Nat.reduceMul, Nat.reduceSub, Int.reduceToNat, Nat.reduceBEq], by simp (disch := first | (simp only [go_sem, gb0, eq_self]; done) | omega | (simp only [gl1, gl2]; omega)) only [go_sem, ↓reduceIte, Nat.reduceEqDiff, Nat.reduceAdd, Nat.reduceMul, Nat.reduceSub, Int.reduceToNat, Nat.reduceBEq], by simp (disch := first | (simp only [go_sem, gb0, eq_self]; done) | omega | (simp only [gl1, gl2]; omega)) only [go_sem, ↓reduceIte, Nat.reduceEqDiff, Nat.reduceAdd, Nat.reduceMul, Nat.reduceSub, Int.reduceToNat, Nat.reduceBEq], by simp (disch := first | (simp only [go_sem, gb0, eq_self]; done) | omega | (simp only [gl1, gl2]; omega)) only [go_sem, ↓reduceIte, Nat.reduceEqDiff, Nat.reduceAdd, Nat.reduceMul, Nat.reduceSub, Int.reduceToNat, Nat.reduceBEq], by simp (disch := first | (simp only [go_sem, gb0, eq_self]; done) | omega | (simp only [gl1, gl2]; omega)) only [go_sem, ↓reduceIte, Nat.reduceEqDiff, Nat.reduceAdd, Nat.reduceMul, Nat.reduceSub, Int.reduceToNat, Nat.reduceBEq], by simp (disch := first | (simp only [go_sem, gb0, eq_self]; done) | omega | (simp only [gl1, gl2]; omega)) only [go_sem, ↓reduceIte, Nat.reduceEqDiff, Nat.reduceAdd, Nat.reduceMul, Nat.reduceSub, Int.reduceToNat, Nat.reduceBEq], fun k hk => by omega⟩ ?_
    rintro i st g hi s12 ⟨s2, s3, s4, s5, s8, s11, g0, g1, hle⟩
    by_cases hlt : i < m
    case neg =>
      have hie : i = m := by omega
      subst hie
      simp (disch := first | (simp only [go_sem, gb0, eq_self]; done) | omega | (simp only [gl1, gl2]; omega)) only [go_sem, ↓reduceIte, Nat.reduceEqDiff, Nat.reduceAdd, Nat.reduceMul, Nat.reduceSub, Int.reduceToNat, Nat.reduceBEq, s2, s3, s4, s5, s8, s11, s12, hlt]
      exact ⟨g0, g1, hle⟩
    have hlt' : (i : Int) < m := by omega
    have h8 : (i : Int) < 8 := by omega
    have h8' : (n : Int) + i < 8 := by omega
    have e0 := cb_get (LI xs) (I d) (bs := bs) (i := i) (by omega)
    have e1' := cb_get (LI ys) (I e) (bs := cs) (i := n + i) (by omega)
    have htn : ((n : Int) + (i : Int)).toNat = n + i := by omega
    cases hx : nth bs i with
    | true =>
      rw [hx] at e0
      simp (disch := first | (simp only [go_sem, gb0, eq_self]; done) | omega | (simp only [gl1, gl2]; omega)) only [go_sem, ↓reduceIte, Nat.reduceEqDiff, Nat.reduceAdd, Nat.reduceMul, Nat.reduceSub, Int.reduceToNat, Nat.reduceBEq, s2, s3, s4, s5, s8, s11, s12, hlt, hlt', h8, g0, e0]
      rw [ForK_normal]
      exact ⟨hlt, by simp (disch := first | (simp only [go_sem, gb0, eq_self]; done) | omega | (simp only [gl1, gl2]; omega)) only [go_sem, ↓reduceIte, Nat.reduceEqDiff, Nat.reduceAdd, Nat.reduceMul, Nat.reduceSub, Int.reduceToNat, Nat.reduceBEq, s12], by simp (disch := first | (simp only [go_sem, gb0, eq_self]; done) | omega | (simp only [gl1, gl2]; omega)) only [go_sem, ↓reduceIte, Nat.reduceEqDiff, Nat.reduceAdd, Nat.reduceMul, Nat.reduceSub, Int.reduceToNat, Nat.reduceBEq, s2], by simp (disch := first | (simp only [go_sem, gb0, eq_self]; done) | omega | (simp only [gl1, gl2]; omega)) only [go_sem, ↓reduceIte, Nat.reduceEqDiff, Nat.reduceAdd, Nat.reduceMul, Nat.reduceSub, Int.reduceToNat, Nat.reduceBEq, s3], by simp (disch := first | (simp only [go_sem, gb0, eq_self]; done) | omega | (simp only [gl1, gl2]; omega)) only [go_sem, ↓reduceIte, Nat.reduceEqDiff, Nat.reduceAdd, Nat.reduceMul, Nat.reduceSub, Int.reduceToNat, Nat.reduceBEq, s4], by simp (disch := first | (simp only [go_sem, gb0, eq_self]; done) | omega | (simp only [gl1, gl2]; omega)) only [go_sem, ↓reduceIte, Nat.reduceEqDiff, Nat.reduceAdd, Nat.reduceMul, Nat.reduceSub, Int.reduceToNat, Nat.reduceBEq, s5], by simp (disch := first | (simp only [go_sem, gb0, eq_self]; done) | omega | (simp only [gl1, gl2]; omega)) only [go_sem, ↓reduceIte, Nat.reduceEqDiff, Nat.reduceAdd, Nat.reduceMul, Nat.reduceSub, Int.reduceToNat, Nat.reduceBEq, s8], by simp (disch := first | (simp only [go_sem, gb0, eq_self]; done) | omega | (simp only [gl1, gl2]; omega)) only [go_sem, ↓reduceIte, Nat.reduceEqDiff, Nat.reduceAdd, Nat.reduceMul, Nat.reduceSub, Int.reduceToNat, Nat.reduceBEq, s11], g0, g1, fun k hk => by
        by_cases q : k = i
        · subst q; rw [hx]; rfl
        · exact hle k (by omega)⟩
    | false =>
      rw [hx] at e0
      cases hy : nth cs (n + i) with
      | true =>
        rw [hy] at e1'
        simp (disch := first | (simp only [go_sem, gb0, eq_self]; done) | omega | (simp only [gl1, gl2]; omega)) only [go_sem, ↓reduceIte, Nat.reduceEqDiff, Nat.reduceAdd, Nat.reduceMul, Nat.reduceSub, Int.reduceToNat, Nat.reduceBEq, s2, s3, s4, s5, s8, s11, s12, hlt, hlt', h8, h8', g0, g1, e0, e1', htn]
        rw [ForK_normal]
        exact ⟨hlt, by simp (disch := first | (simp only [go_sem, gb0, eq_self]; done) | omega | (simp only [gl1, gl2]; omega)) only [go_sem, ↓reduceIte, Nat.reduceEqDiff, Nat.reduceAdd, Nat.reduceMul, Nat.reduceSub, Int.reduceToNat, Nat.reduceBEq, s12], by simp (disch := first | (simp only [go_sem, gb0, eq_self]; done) | omega | (simp only [gl1, gl2]; omega)) only [go_sem, ↓reduceIte, Nat.reduceEqDiff, Nat.reduceAdd, Nat.reduceMul, Nat.reduceSub, Int.reduceToNat, Nat.reduceBEq, s2], by simp (disch := first | (simp only [go_sem, gb0, eq_self]; done) | omega | (simp only [gl1, gl2]; omega)) only [go_sem, ↓reduceIte, Nat.reduceEqDiff, Nat.reduceAdd, Nat.reduceMul, Nat.reduceSub, Int.reduceToNat, Nat.reduceBEq, s3], by simp (disch := first | (simp only [go_sem, gb0, eq_self]; done) | omega | (simp only [gl1, gl2]; omega)) only [go_sem, ↓reduceIte, Nat.reduceEqDiff, Nat.reduceAdd, Nat.reduceMul, Nat.reduceSub, Int.reduceToNat, Nat.reduceBEq, s4], by simp (disch := first | (simp only [go_sem, gb0, eq_self]; done) | omega | (simp only [gl1, gl2]; omega)) only [go_sem, ↓reduceIte, Nat.reduceEqDiff, Nat.reduceAdd, Nat.reduceMul, Nat.reduceSub, Int.reduceToNat, Nat.reduceBEq, s5], by simp (disch := first | (simp only [go_sem, gb0, eq_self]; done) | omega | (simp only [gl1, gl2]; omega)) only [go_sem, ↓reduceIte, Nat.reduceEqDiff, Nat.reduceAdd, Nat.reduceMul, Nat.reduceSub, Int.reduceToNat, Nat.reduceBEq, s8], by simp (disch := first | (simp only [go_sem, gb0, eq_self]; done) | omega | (simp only [gl1, gl2]; omega)) only [go_sem, ↓reduceIte, Nat.reduceEqDiff, Nat.reduceAdd, Nat.reduceMul, Nat.reduceSub, Int.reduceToNat, Nat.reduceBEq, s11], g0, g1, fun k hk => by
          by_cases q : k = i
          · subst q; rw [hx, hy]; rfl
          · exact hle k (by omega)⟩
      | false =>
        rw [hy] at e1'
        have hf : fitsB bs cs m n = false := by
          have : (List.range m).all (fun i => nth bs i || nth cs (n + i)) = false := by
            rw [List.all_eq_false]; exact ⟨i, List.mem_range.2 hlt, by rw [hx, hy]; decide⟩
          rw [fitsB, this]; rfl
        rw [hf]
        simp (disch := first | (simp only [go_sem, gb0, eq_self]; done) | omega | (simp only [gl1, gl2]; omega)) only [go_sem, ↓reduceIte, Nat.reduceEqDiff, Nat.reduceAdd, Nat.reduceMul, Nat.reduceSub, Int.reduceToNat, Nat.reduceBEq, s2, s3, s4, s5, s8, s11, s12, hlt, hlt', h8, h8', g0, g1, e0, e1', htn]
  rintro st g ⟨s2, s3, s4, s5, s8, g0, g1, hle⟩
  have h1 : (List.range m).all (fun i => nth bs i || nth cs (n + i)) = true := by
    rw [List.all_eq_true]; intro i hi; exact hle i (List.mem_range.1 hi)
  simp (disch := first | (simp only [go_sem, gb0, eq_self]; done) | omega | (simp only [gl1, gl2]; omega)) only [go_sem, ↓reduceIte, Nat.reduceEqDiff, Nat.reduceAdd, Nat.reduceMul, Nat.reduceSub, Int.reduceToNat, Nat.reduceBEq, s2, s3, s4, s5, s8]
  refine WP_for 31 n (fun j st g => st 2 = I m ∧ st 3 = I n ∧ st 4 = .ptr 0 0 ∧ st 5 = .ptr 1 0 ∧ st 8 = .bool false ∧ st 30 = I n ∧ g.bl 0 = some (.cells false false (LI xs :: I d :: bs.flatMap (e1 AV.bool))) ∧ g.bl 1 = some (.cells false false (LI ys :: I e :: cs.flatMap (e1 AV.bool))) ∧ ∀ k, k < j → (nth bs (m + k) || nth cs k) = true) (by simp (disch := first | (simp only [go_sem, gb0, eq_self]; done) | omega | (simp only [gl1, gl2]; omega)) only [go_sem, ↓reduceIte, Nat.reduceEqDiff, Nat.reduceAdd, Nat.reduceMul, Nat.reduceSub, Int.reduceToNat, Nat.reduceBEq]) ⟨by simp (disch := first | (simp only [go_sem, gb0, eq_self]; done) | omega | (simp only [gl1, gl2]; omega)) only [go_sem, ↓reduceIte, Nat.reduceEqDiff, Nat.reduceAdd, Nat.reduceMul, Nat.reduceSub, Int.reduceToNat, Nat.reduceBEq, s2, s3, s4, s5, s8], by simp (disch := first | (simp only [go_sem, gb0, eq_self]; done) | omega | (simp only [gl1, gl2]; omega)) only [go_sem, ↓reduceIte, Nat.reduceEqDiff, Nat.reduceAdd, Nat.reduceMul, Nat.reduceSub, Int.reduceToNat, Nat.reduceBEq, s2, s3, s4, s5, s8], by simp (disch := first | (simp only [go_sem, gb0, eq_self]; done) | omega | (simp only [gl1, gl2]; omega)) only [go_sem, ↓reduceIte, Nat.reduceEqDiff, Nat.reduceAdd, Nat.reduceMul, Nat.reduceSub, Int.reduceToNat, Nat.reduceBEq, s2, s3, s4, s5, s8], by simp (disch := first | (simp only [go_sem, gb0, eq_self]; done) | omega | (simp only [gl1, gl2]; omega)) only [go_sem, ↓reduceIte, Nat.reduceEqDiff, Nat.reduceAdd, Nat.reduceMul, Nat.reduceSub, Int.reduceToNat, Nat.reduceBEq, s2, s3, s4, s5, s8], by simp (disch := first | (simp only [go_sem, gb0, eq_self]; done) | omega | (simp only [gl1, gl2]; omega)) only [go_sem, ↓reduceIte, Nat.reduceEqDiff, Nat.reduceAdd, Nat.reduceMul, Nat.reduceSub, Int.reduceToNat, Nat.reduceBEq, s2, s3, s4, s5, s8], by simp (disch := first | (simp only [go_sem, gb0, eq_self]; done) | omega | (simp only [gl1, gl2]; omega)) only [go_sem, ↓reduceIte, Nat.reduceEqDiff, Nat.reduceAdd, Nat.reduceMul, Nat.reduceSub, Int.reduceToNat, Nat.reduceBEq, s2, s3, s4, s5, s8], g0, g1, fun k hk => by omega⟩ ?_
  clear s2 s3 s4 s5 s8 g0 g1
  rintro j st g hj s31 ⟨s2, s3, s4, s5, s8, s30, g0, g1, hle2⟩
  by_cases hlt : j < n
  case neg =>
    have hje : j = n := by omega
    subst hje
    have hf : fitsB bs cs m j = true := by
      have : (List.range j).all (fun k => nth bs (m + k) || nth cs k) = true := by
        rw [List.all_eq_true]; intro i hi; exact hle2 i (List.mem_range.1 hi)
      rw [fitsB, this, h1]; rfl
    rw [hf]
    simp (disch := first | (simp only [go_sem, gb0, eq_self]; done) | omega | (simp only [gl1, gl2]; omega)) only [go_sem, ↓reduceIte, Nat.reduceEqDiff, Nat.reduceAdd, Nat.reduceMul, Nat.reduceSub, Int.reduceToNat, Nat.reduceBEq, s2, s3, s4, s5, s8, s30, s31, hlt]
  have hlt' : (j : Int) < n := by omega
  have h8 : (j : Int) < 8 := by omega
  have h8' : (m : Int) + j < 8 := by omega
  have e0 := cb_get (LI xs) (I d) (bs := bs) (i := m + j) (by omega)
  have e1' := cb_get (LI ys) (I e) (bs := cs) (i := j) (by omega)
  have htn : ((m : Int) + (j : Int)).toNat = m + j := by omega
  cases hx : nth bs (m + j) with
  | true =>
    rw [hx] at e0
    simp (disch := first | (simp only [go_sem, gb0, eq_self]; done) | omega | (simp only [gl1, gl2]; omega)) only [go_sem, ↓reduceIte, Nat.reduceEqDiff, Nat.reduceAdd, Nat.reduceMul, Nat.reduceSub, Int.reduceToNat, Nat.reduceBEq, s2, s3, s4, s5, s8, s30, s31, hlt, hlt', h8', htn, g0, e0]
    rw [ForK_normal]
    exact ⟨hlt, by simp (disch := first | (simp only [go_sem, gb0, eq_self]; done) | omega | (simp only [gl1, gl2]; omega)) only [go_sem, ↓reduceIte, Nat.reduceEqDiff, Nat.reduceAdd, Nat.reduceMul, Nat.reduceSub, Int.reduceToNat, Nat.reduceBEq, s31], by simp (disch := first | (simp only [go_sem, gb0, eq_self]; done) | omega | (simp only [gl1, gl2]; omega)) only [go_sem, ↓reduceIte, Nat.reduceEqDiff, Nat.reduceAdd, Nat.reduceMul, Nat.reduceSub, Int.reduceToNat, Nat.reduceBEq, s2], by simp (disch := first | (simp only [go_sem, gb0, eq_self]; done) | omega | (simp only [gl1, gl2]; omega)) only [go_sem, ↓reduceIte, Nat.reduceEqDiff, Nat.reduceAdd, Nat.reduceMul, Nat.reduceSub, Int.reduceToNat, Nat.reduceBEq, s3], by simp (disch := first | (simp only [go_sem, gb0, eq_self]; done) | omega | (simp only [gl1, gl2]; omega)) only [go_sem, ↓reduceIte, Nat.reduceEqDiff, Nat.reduceAdd, Nat.reduceMul, Nat.reduceSub, Int.reduceToNat, Nat.reduceBEq, s4], by simp (disch := first | (simp only [go_sem, gb0, eq_self]; done) | omega | (simp only [gl1, gl2]; omega)) only [go_sem, ↓reduceIte, Nat.reduceEqDiff, Nat.reduceAdd, Nat.reduceMul, Nat.reduceSub, Int.reduceToNat, Nat.reduceBEq, s5], by simp (disch := first | (simp only [go_sem, gb0, eq_self]; done) | omega | (simp only [gl1, gl2]; omega)) only [go_sem, ↓reduceIte, Nat.reduceEqDiff, Nat.reduceAdd, Nat.reduceMul, Nat.reduceSub, Int.reduceToNat, Nat.reduceBEq, s8], by simp (disch := first | (simp only [go_sem, gb0, eq_self]; done) | omega | (simp only [gl1, gl2]; omega)) only [go_sem, ↓reduceIte, Nat.reduceEqDiff, Nat.reduceAdd, Nat.reduceMul, Nat.reduceSub, Int.reduceToNat, Nat.reduceBEq, s30], g0, g1, fun k hk => by
      by_cases q : k = j
      · subst q; rw [hx]; rfl
      · exact hle2 k (by omega)⟩
  | false =>
    rw [hx] at e0
    cases hy : nth cs j with
    | true =>
      rw [hy] at e1'
      simp (disch := first | (simp only [go_sem, gb0, eq_self]; done) | omega | (simp only [gl1, gl2]; omega)) only [go_sem, ↓reduceIte, Nat.reduceEqDiff, Nat.reduceAdd, Nat.reduceMul, Nat.reduceSub, Int.reduceToNat, Nat.reduceBEq, s2, s3, s4, s5, s8, s30, s31, hlt, hlt', h8, h8', g0, g1, e0, e1', htn]
      rw [ForK_normal]
      exact ⟨hlt, by simp (disch := first | (simp only [go_sem, gb0, eq_self]; done) | omega | (simp only [gl1, gl2]; omega)) only [go_sem, ↓reduceIte, Nat.reduceEqDiff, Nat.reduceAdd, Nat.reduceMul, Nat.reduceSub, Int.reduceToNat, Nat.reduceBEq, s31], by simp (disch := first | (simp only [go_sem, gb0, eq_self]; done) | omega | (simp only [gl1, gl2]; omega)) only [go_sem, ↓reduceIte, Nat.reduceEqDiff, Nat.reduceAdd, Nat.reduceMul, Nat.reduceSub, Int.reduceToNat, Nat.reduceBEq, s2], by simp (disch := first | (simp only [go_sem, gb0, eq_self]; done) | omega | (simp only [gl1, gl2]; omega)) only [go_sem, ↓reduceIte, Nat.reduceEqDiff, Nat.reduceAdd, Nat.reduceMul, Nat.reduceSub, Int.reduceToNat, Nat.reduceBEq, s3], by simp (disch := first | (simp only [go_sem, gb0, eq_self]; done) | omega | (simp only [gl1, gl2]; omega)) only [go_sem, ↓reduceIte, Nat.reduceEqDiff, Nat.reduceAdd, Nat.reduceMul, Nat.reduceSub, Int.reduceToNat, Nat.reduceBEq, s4], by simp (disch := first | (simp only [go_sem, gb0, eq_self]; done) | omega | (simp only [gl1, gl2]; omega)) only [go_sem, ↓reduceIte, Nat.reduceEqDiff, Nat.reduceAdd, Nat.reduceMul, Nat.reduceSub, Int.reduceToNat, Nat.reduceBEq, s5], by simp (disch := first | (simp only [go_sem, gb0, eq_self]; done) | omega | (simp only [gl1, gl2]; omega)) only [go_sem, ↓reduceIte, Nat.reduceEqDiff, Nat.reduceAdd, Nat.reduceMul, Nat.reduceSub, Int.reduceToNat, Nat.reduceBEq, s8], by simp (disch := first | (simp only [go_sem, gb0, eq_self]; done) | omega | (simp only [gl1, gl2]; omega)) only [go_sem, ↓reduceIte, Nat.reduceEqDiff, Nat.reduceAdd, Nat.reduceMul, Nat.reduceSub, Int.reduceToNat, Nat.reduceBEq, s30], g0, g1, fun k hk => by
        by_cases q : k = j
        · subst q; rw [hx, hy]; rfl
        · exact hle2 k (by omega)⟩
    | false =>
      rw [hy] at e1'
      have hf : fitsB bs cs m n = false := by
        have : (List.range n).all (fun k => nth bs (m + k) || nth cs k) = false := by
          rw [List.all_eq_false]; exact ⟨j, List.mem_range.2 hlt, by rw [hx, hy]; decide⟩
        rw [fitsB, this, Bool.and_false]
      rw [hf]
      simp (disch := first | (simp only [go_sem, gb0, eq_self]; done) | omega | (simp only [gl1, gl2]; omega)) only [go_sem, ↓reduceIte, Nat.reduceEqDiff, Nat.reduceAdd, Nat.reduceMul, Nat.reduceSub, Int.reduceToNat, Nat.reduceBEq, s2, s3, s4, s5, s8, s30, s31, hlt, hlt', h8, h8', g0, g1, e0, e1', htn]
end Go.Proofs.Ytcdpkgmkckfonaa

set_option linter.unusedVariables false
set_option linter.unusedSimpArgs false
set_option maxRecDepth 10000
namespace Go.Proofs.Ytcdpkgmkckfonaa
open Go Go.Am Go.RowKit

variable {h h' : Hp} {K : AV → Hp → Prop}

theorem hext0 : ExtOk Try.prog cfg := fun _ _ _ h => by cases h
theorem hlate0 : ∀ id n, cfg.late id n = [] := fun _ _ => rfl
/-- The set of a number: its bits. -/
def bitsL (N x : Nat) : List Bool := (List.range N).map fun i => x.testBit i
theorem bitsL_len (N x : Nat) : (bitsL N x).length = N := by simp [bitsL]
theorem bitsL_on {N x i : Nat} (h : i < N) : onB (bitsL N x) i = x.testBit i := by
  simp [onB, bitsL, h]
theorem bitsL_pad {N x : Nat} (h8 : N ≤ 8) : fillR 8 (fun i => x.testBit i) false N = pad8 (bitsL N x) := by
  refine list_ext_nth (by rw [fillR_len, pad8_len]) fun c hc => ?_
  rw [fillR_len] at hc
  rw [fillR_nth hc, pad8, fillR_nth hc, bitsL_len]
  by_cases h : c < N
  · rw [if_pos h, if_pos h, bitsL_on h]
  · rw [if_neg h, if_neg h]
def setOk (N M x : Nat) : Bool := decide (cardB (bitsL N x) = M)
def selL (N M k : Nat) : List AV := ((List.range k).filter (setOk N M)).map fun x => actsA (bitsL N x)
theorem selL_succ (N M k : Nat) : selL N M (k + 1) = selL N M k ++ (if setOk N M k then [actsA (bitsL N k)] else []) := by
  unfold selL
  rw [List.range_succ, List.filter_append, List.map_append]
  congr 1
  by_cases h : setOk N M k = true
  · simp [h]
  · simp [h]
theorem selL_pre {N M k k' : Nat} (h : k ≤ k') : selL N M k <+: selL N M k' := by
  obtain ⟨d, rfl⟩ : ∃ d, k' = k + d := ⟨k' - k, by omega⟩
  clear h
  induction d with
  | zero => exact List.prefix_rfl
  | succ d ih => rw [← Nat.add_assoc, selL_succ]; exact ih.trans (List.prefix_append _ _)
theorem bools_any {w : World} {c : Ctx} {bs : List Bool} {v : Value} (h : VR w c (.agg (bs.flatMap (e1 AV.bool))) v) (w' : World) (c' : Ctx) : VR w' c' (.agg (bs.flatMap (e1 AV.bool))) v := by
  generalize hq : bs.flatMap (e1 AV.bool) = q at h
  cases h with
  | agg _ vs hl hcell hv =>
    subst hq
    refine .agg _ vs hl hcell fun j y hj => ?_
    have hlt : j < bs.length := by have := (List.getElem?_eq_some_iff.1 hj).1; rwa [flat_len] at this
    have h1 := hv j y hj
    rw [flat_get _ _ _ hlt] at hj
    cases hj
    rw [h1.bool_inv]; exact .bool _
theorem acts_rep {w : World} {c : Ctx} {s : List Bool} {v : Value} (h : VR w c (actsA s) v) (f0 : Nat → Prop) (n : Nat) (w' : World) : Rep f0 n w' (actsA s) v := fun c' _ _ => bools_any h w' c'

theorem sets_seq (N M : Nat) (hN : N ≤ 8) (hM : M ≤ 8) (m : Nat) (ad1 ad2 : Addr) (w : World) (hb1 : ad1.block < w.heap.size) (hb2 : ad2.block < w.heap.size) (hc1 : w.cell? ad1 = some (.int .i64 N)) (hc2 : w.cell? ad2 = some (.int .i64 M)) (f0 : Nat → Prop) :
    SeqN Try.prog m 82 #[.pointer (some ad1), .pointer (some ad2)] f0 (selL N M (2 ^ N)) w := by
  intro l J Jx W hW hJ hX hY h0
  have hB6 : 2 ^ N ≤ 256 := by have := Nat.pow_le_pow_right (n := 2) (by decide) hN; omega
  have esh := fun t => shl_one (P := Try.prog) t N (by omega)
  obtain ⟨B, hB⟩ : ∃ B, B = 2 ^ N := ⟨_, rfl⟩
  rw [← hB] at esh hY hB6 ⊢
  have hcW1 : W.cell? ad1 = some (.int .i64 N) := (hW.cell (p := ad1) hb1).trans hc1
  have hcW2 : W.cell? ad2 = some (.int .i64 M) := (hW.cell (p := ad2) hb2).trans hc2
  have hbW1 : ad1.block < W.heap.size := Nat.lt_of_lt_of_le hb1 hW.size
  have hbW2 : ad2.block < W.heap.size := Nat.lt_of_lt_of_le hb2 hW.size
  obtain ⟨c0, hc0⟩ : ∃ c : Ctx, c = { base := W.heap.size, nx := 0, loc := fun _ => .dead, fz := fun k => k = ad1.block ∨ k = ad2.block } := ⟨_, rfl⟩
  have H0 : HR W c0 Hp.empty := by rw [hc0]; exact ctx_nil fun k hk => by rcases hk with hk | hk <;> rw [hk] <;> assumption
  have ptr1 : ∀ (ad : Addr) (x : Int), (ad = ad1 ∨ ad = ad2) → W.cell? ad = some (.int .i64 x) → VR W c0 (.pp [I x]) (.pointer (some ad)) := fun ad x hq hcl => by
    refine .pp _ _ (fun _ => .int .i64 x) (fun _ => by rw [hc0]; rcases hq with rfl | rfl; exact .inl rfl; exact .inr rfl) (by simp [AV.isCell]) (fun j hj => ?_) (fun j y hy => ?_)
    · have : j = 0 := by simpa using hj
      subst this
      have e0 : ad.add 0 = ad := by unfold Addr.add; simp
      rw [e0]; exact hcl
    · have : j = 0 := by
        have := (List.getElem?_eq_some_iff.1 hy).1
        simpa using this
      subst this
      cases hy; exact .int _ _
  have S0 : SR 37 W c0 (initSt [.undef, .pp [I N], .pp [I M]]) { tmps := #[.func (.yield l) #[] #[], .pointer (some ad1), .pointer (some ad2)] ++ Array.replicate (37 - 3) Go.undef, defers := [] } := by
    refine args_start (n := 37) ⟨rfl, fun j v hj => ?_⟩ (Nat.le_of_ble_eq_true rfl)
    match j, hj with
    | 0, hj => cases hj; exact .undef _
    | 1, hj => cases hj; exact ptr1 ad1 N (.inl rfl) hcW1
    | 2, hj => cases hj; exact ptr1 ad2 M (.inr rfl) hcW2
  have hbase0 : c0.base = W.heap.size := by rw [hc0]
  refine callsIn_of_wp (fn := Try.f82) (c := Try.f82.body.getD .skip) Try.func82 rfl trivial ?_
  have hy0 : ({ tmps := #[.func (.yield l) #[] #[], .pointer (some ad1), .pointer (some ad2)] ++ Array.replicate (37 - 3) Go.undef, defers := [] } : Act).tmps[0]? = some (.func (.yield l) #[] #[]) := by simp
  obtain ⟨a0, ha0⟩ : ∃ a0 : Act, { tmps := #[.func (.yield l) #[] #[], .pointer (some ad1), .pointer (some ad2)] ++ Array.replicate (37 - 3) Go.undef, defers := [] } = a0 := ⟨_, rfl⟩
  rw [ha0] at S0 hy0
  have hgo : (Try.f82.body.getD .skip).wpIn (rF none) m Try.prog (bodyPost Try.prog Try.f82 fun e W' => (∃ v, e = .returned v) ∧ (J (selL N M B) W' ∨ (∃ pre x, pre ++ [x] <+: selL N M B ∧ Jx (pre ++ [x]) W'))) a0 W := ?_
  · rw [← ha0] at hgo; exact hgo
  simp only [Try.f82, Option.getD_some]
  refine wpIn_seq (WP.in_ hext0 hlate0 0 rfl rfl (R := fun x st h => x = .normal ∧ st 1 = .pp [I N] ∧ st 2 = .pp [I M] ∧ st 9 = I B ∧ st 10 = I (0 : Nat)) ?_ H0 S0 ?_)
  · simp only [initSt3]
    simp (disch := first | (simp only [go_sem, gb0, eq_self]; done) | omega | (simp only [gl1, gl2]; omega)) only [go_sem, ↓reduceIte, Nat.reduceEqDiff, Nat.reduceAdd, Nat.reduceMul, Nat.reduceSub, Int.reduceToNat, Nat.reduceBEq, esh]
    rfl
  rintro x st h ⟨rfl, s1, s2, s9, s10⟩ w1 c1 a1 E1 H1 S1 F1
  refine wpIn_block (wpIn_loop (fun a w' => ∃ ctx h st k, HR w' ctx h ∧ SR 37 w' ctx st a ∧ ctx.base = W.heap.size ∧ st 1 = .pp [I N] ∧ st 2 = .pp [I M] ∧ st 9 = I B ∧ st 10 = I (k : Nat) ∧ k ≤ B ∧ J (selL N M k) w' ∧ Below W.heap.size W w' ∧ a.tmps[0]? = some (.func (.yield l) #[] #[]))
    (fun a _ => B - (intOf (a.tmps.getD 10 Go.undef)).toNat) ?_ ?_)
  · have hb := E1.below
    rw [hbase0] at hb
    exact ⟨c1, h, st, 0, H1, S1, E1.base.trans hbase0, s1, s2, s9, s10, Nat.zero_le _, hJ _ _ _ h0 hb, hb, Eq.trans F1 hy0⟩
  rintro a w2 ⟨ctx, h, st, k, H, S, hbase, s1, s2, s9, s10, hk, hj, hbl, hy⟩
  have hval10 : a.tmps.getD 10 Go.undef = .int .i64 k := by
    have := S.val 10
    rw [s10] at this
    generalize a.tmps.getD 10 Go.undef = v at this
    cases this; rfl
  refine wpIn_seq (WP.in_ hext0 hlate0 0 rfl rfl (R := fun x st h' => x = .normal ∧ st 1 = .pp [I N] ∧ st 2 = .pp [I M] ∧ st 9 = I B ∧ st 10 = I k ∧ st 11 = .bool (decide (k < B))) ?_ H S ?_)
  · by_cases hlt : k < B
    · simp (disch := first | (simp only [go_sem, gb0, eq_self]; done) | omega | (simp only [gl1, gl2]; omega)) only [go_sem, ↓reduceIte, Nat.reduceEqDiff, Nat.reduceAdd, Nat.reduceMul, Nat.reduceSub, Int.reduceToNat, Nat.reduceBEq, s1, s2, s9, s10, hlt, decide_true]
    · simp (disch := first | (simp only [go_sem, gb0, eq_self]; done) | omega | (simp only [gl1, gl2]; omega)) only [go_sem, ↓reduceIte, Nat.reduceEqDiff, Nat.reduceAdd, Nat.reduceMul, Nat.reduceSub, Int.reduceToNat, Nat.reduceBEq, s1, s2, s9, s10, hlt, decide_false]
  rintro x st h3 ⟨rfl, s1, s2, s9, s10, s11⟩ w3 c3 a3 E3 H3 S3 F3
  refine wpIn_seq ?_
  by_cases hlt : k < B
  case neg =>
    have hkB : k = B := by omega
    rw [show decide (k < B) = false by simp [hlt]] at s11
    refine WP.in_ hext0 hlate0 0 rfl rfl (R := fun x st h => x = .exit 0) ?_ H3 S3 ?_
    · simp (disch := first | (simp only [go_sem, gb0, eq_self]; done) | omega | (simp only [gl1, gl2]; omega)) only [go_sem, ↓reduceIte, Nat.reduceEqDiff, Nat.reduceAdd, Nat.reduceMul, Nat.reduceSub, Int.reduceToNat, Nat.reduceBEq, s11]
    rintro x st' h' rfl w4 c4 a4 E4 H4 S4 F4
    refine ⟨S4.defers, _, results_none rfl _ _ _, ⟨_, rfl⟩, .inl ?_⟩
    have hb1 := (E3.trans E4).below
    rw [hbase] at hb1
    rw [← hkB]
    exact hJ _ _ _ hj hb1
  rw [show decide (k < B) = true by simp [hlt]] at s11
  refine WP.in_ hext0 hlate0 0 rfl rfl (R := fun x st h' => x = .normal ∧ st 1 = .pp [I N] ∧ st 2 = .pp [I M] ∧ st 9 = I B ∧ st 10 = I k) ?_ H3 S3 ?_
  · simp (disch := first | (simp only [go_sem, gb0, eq_self]; done) | omega | (simp only [gl1, gl2]; omega)) only [go_sem, ↓reduceIte, Nat.reduceEqDiff, Nat.reduceAdd, Nat.reduceMul, Nat.reduceSub, Int.reduceToNat, Nat.reduceBEq, s1, s2, s9, s10, s11]
  rintro x st h4 ⟨rfl, s1, s2, s9, s10⟩ w4 c4 a4 E4 H4 S4 F4
  have hbase4 : c4.base = W.heap.size := ((E3.trans E4).base).trans hbase
  have hb4 := (E3.trans E4).below
  rw [hbase] at hb4
  have hj4 : J (selL N M k) w4 := hJ _ _ _ hj hb4
  have hbl4 := hbl.trans hb4
  have hy4 : a4.tmps[0]? = some (.func (.yield l) #[] #[]) := Eq.trans F4 (Eq.trans F3 hy)
  clear H S H3 S3 F3 F4 E3 E4 hb4 hj hy hbl
  refine wpIn_seq (wpIn_block ?_)
  refine wpIn_seq (WP.in_ hext0 hlate0 0 rfl rfl (R := fun x st h' => x = .normal ∧ st 1 = .pp [I N] ∧ st 2 = .pp [I M] ∧ st 9 = I B ∧ st 10 = I k ∧ st 4 = I k) ?_ H4 S4 ?_)
  · simp (disch := first | (simp only [go_sem, gb0, eq_self]; done) | omega | (simp only [gl1, gl2]; omega)) only [go_sem, ↓reduceIte, Nat.reduceEqDiff, Nat.reduceAdd, Nat.reduceMul, Nat.reduceSub, Int.reduceToNat, Nat.reduceBEq, s1, s2, s9, s10]
  rintro x st h5 ⟨rfl, s1, s2, s9, s10, s4⟩ w5 c5 a5 E5 H5 S5 F5
  refine wpIn_seq (WP.in_ hext0 hlate0 0 rfl rfl (R := fun x st h' => x = .normal ∧ st 1 = .pp [I N] ∧ st 2 = .pp [I M] ∧ st 9 = I B ∧ st 10 = I k ∧ st 4 = I k ∧ st 5 = .ptr h5.nx 0 ∧ h5.nx < h'.nx ∧ h'.bl h5.nx = some (.cells false false ((fillR 8 (fun i => k.testBit i) false 0).flatMap (e1 .bool)))) ?_ H5 S5 ?_)
  · simp (disch := first | (simp only [go_sem, gb0, eq_self]; done) | omega | (simp only [gl1, gl2]; omega)) only [go_sem, ↓reduceIte, Nat.reduceEqDiff, Nat.reduceAdd, Nat.reduceMul, Nat.reduceSub, Int.reduceToNat, Nat.reduceBEq, s1, s2, s9, s10, s4]
    exact ⟨Nat.lt_succ_self _, rfl⟩
  rintro x st h6 ⟨rfl, s1, s2, s9, s10, s4, s5, hid, hbl⟩ w6 c6 a6 E6 H6 S6 F6
  generalize h5.nx = id at *
  refine wpIn_seq (WP.in_ hext0 hlate0 0 rfl rfl (R := fun x st h' => x = .normal ∧ st 1 = .pp [I N] ∧ st 2 = .pp [I M] ∧ st 9 = I B ∧ st 10 = I k ∧ st 4 = I k ∧ st 5 = .ptr id 0 ∧ st 6 = I 0 ∧ h' = h6) ?_ H6 S6 ?_)
  · simp (disch := first | (simp only [go_sem, gb0, eq_self]; done) | omega | (simp only [gl1, gl2]; omega)) only [go_sem, ↓reduceIte, Nat.reduceEqDiff, Nat.reduceAdd, Nat.reduceMul, Nat.reduceSub, Int.reduceToNat, Nat.reduceBEq, s1, s2, s9, s10, s4, s5]
  rintro x st h7 ⟨rfl, s1, s2, s9, s10, s4, s5, s6, rfl⟩ w7 c7 a7 E7 H7 S7 F7
  refine wpIn_seq (WP.in_ hext0 hlate0 0 rfl rfl (R := fun x st h' => x = .normal ∧ st 1 = .pp [I N] ∧ st 2 = .pp [I M] ∧ st 9 = I B ∧ st 10 = I k ∧ st 5 = .ptr id 0 ∧ st 6 = I (cardB (bitsL N k)) ∧ h'.bl id = some (.cells false false ((pad8 (bitsL N k)).flatMap (e1 .bool)))) ?_ H7 S7 ?_)
  · simp (disch := first | (simp only [go_sem, gb0, eq_self]; done) | omega | (simp only [gl1, gl2]; omega)) only [go_sem, ↓reduceIte, Nat.reduceEqDiff, Nat.reduceAdd, Nat.reduceMul, Nat.reduceSub, Int.reduceToNat, Nat.reduceBEq, s1, s2, s9, s10, s4, s5, s6]
    refine WP_for 14 N (fun i st h => st 1 = .pp [I N] ∧ st 2 = .pp [I M] ∧ st 9 = I B ∧ st 10 = I k ∧ st 4 = I k ∧ st 5 = .ptr id 0 ∧ st 13 = I N ∧ st 6 = I (cardB ((bitsL N k).take i)) ∧ id < h.nx ∧ h.bl id = some (.cells false false ((fillR 8 (fun i => k.testBit i) false i).flatMap (e1 .bool)))) (by simp (disch := first | (simp only [go_sem, gb0, eq_self]; done) | omega | (simp only [gl1, gl2]; omega)) only [go_sem, ↓reduceIte, Nat.reduceEqDiff, Nat.reduceAdd, Nat.reduceMul, Nat.reduceSub, Int.reduceToNat, Nat.reduceBEq]) ⟨by simp (disch := first | (simp only [go_sem, gb0, eq_self]; done) | omega | (simp only [gl1, gl2]; omega)) only [go_sem, ↓reduceIte, Nat.reduceEqDiff, Nat.reduceAdd, Nat.reduceMul, Nat.reduceSub, Int.reduceToNat, Nat.reduceBEq, s1, s2, s9, s10, s4, s5], by simp (disch := first | (simp only [go_sem, gb0, eq_self]; done) | omega | (simp only [gl1, gl2]; omega)) only [go_sem, ↓reduceIte, Nat.reduceEqDiff, Nat.reduceAdd, Nat.reduceMul, Nat.reduceSub, Int.reduceToNat, Nat.reduceBEq, s1, s2, s9, s10, s4, s5], by simp (disch := first | (simp only [go_sem, gb0, eq_self]; done) | omega | (simp only [gl1, gl2]; omega)) only [go_sem, ↓reduceIte, Nat.reduceEqDiff, Nat.reduceAdd, Nat.reduceMul, Nat.reduceSub, Int.reduceToNat, Nat.reduceBEq, s1, s2, s9, s10, s4, s5], by simp (disch := first | (simp only [go_sem, gb0, eq_self]; done) | omega | (simp only [gl1, gl2]; omega)) only [go_sem, ↓reduceIte, Nat.reduceEqDiff, Nat.reduceAdd, Nat.reduceMul, Nat.reduceSub, Int.reduceToNat, Nat.reduceBEq, s1, s2, s9, s10, s4, s5], by simp (disch := first | (simp only [go_sem, gb0, eq_self]; done) | omega | (simp only [gl1, gl2]; omega)) only [go_sem, ↓reduceIte, Nat.reduceEqDiff, Nat.reduceAdd, Nat.reduceMul, Nat.reduceSub, Int.reduceToNat, Nat.reduceBEq, s1, s2, s9, s10, s4, s5], by simp (disch := first | (simp only [go_sem, gb0, eq_self]; done) | omega | (simp only [gl1, gl2]; omega)) only [go_sem, ↓reduceIte, Nat.reduceEqDiff, Nat.reduceAdd, Nat.reduceMul, Nat.reduceSub, Int.reduceToNat, Nat.reduceBEq, s1, s2, s9, s10, s4, s5], by simp (disch := first | (simp only [go_sem, gb0, eq_self]; done) | omega | (simp only [gl1, gl2]; omega)) only [go_sem, ↓reduceIte, Nat.reduceEqDiff, Nat.reduceAdd, Nat.reduceMul, Nat.reduceSub, Int.reduceToNat, Nat.reduceBEq, s1, s2, s9, s10, s4, s5], by simp (disch := first | (simp only [go_sem, gb0, eq_self]; done) | omega | (simp only [gl1, gl2]; omega)) only [go_sem, ↓reduceIte, Nat.reduceEqDiff, Nat.reduceAdd, Nat.reduceMul, Nat.reduceSub, Int.reduceToNat, Nat.reduceBEq, s6]; rfl, hid, hbl⟩ ?_
    clear s1 s2 s9 s10 s4 s5 s6 hbl hid
    rintro i st h hi s14 ⟨s1, s2, s9, s10, s4, s5, s13, s6, hnx, b0⟩
    by_cases hlt : i < N
    case neg =>
      have hin : i = N := by omega
      subst hin
      have ht : (bitsL i k).take i = bitsL i k := List.take_of_length_le (by rw [bitsL_len]; exact Nat.le_refl _)
      rw [ht] at s6
      rw [bitsL_pad hN] at b0
      simp (disch := first | (simp only [go_sem, gb0, eq_self]; done) | omega | (simp only [gl1, gl2]; omega)) only [go_sem, ↓reduceIte, Nat.reduceEqDiff, Nat.reduceAdd, Nat.reduceMul, Nat.reduceSub, Int.reduceToNat, Nat.reduceBEq, s1, s2, s9, s10, s4, s5, s13, s6, s14, hlt]
      exact b0
    have hsh := shr_nat (P := Try.prog) 3 k i (by omega)
    have hl8 : i < (fillR 8 (fun i => k.testBit i) false i).length := by rw [fillR_len]; omega
    have hset : (fillR 8 (fun i => k.testBit i) false i).set i (k.testBit i) = fillR 8 (fun i => k.testBit i) false (i + 1) := fillR_set (by omega)
    have h8 : (i : Int) < 8 := by omega
    have hcnt : cardB ((bitsL N k).take (i + 1)) = cardB ((bitsL N k).take i) + (if k.testBit i then 1 else 0) := by rw [take_on (by rw [bitsL_len]; exact hlt), bitsL_on hlt]
    have hcb := take_le (bitsL N k) i
    have hcb2 : cardB (bitsL N k) ≤ N := by have := List.count_le_length (a := true) (l := bitsL N k); rw [bitsL_len] at this; exact this
    have hsl : k >>> i < 9223372036854775808 := by rw [Nat.shiftRight_eq_div_pow]; exact Nat.lt_of_le_of_lt (Nat.div_le_self _ _) (by omega)
    have hand : binA Try.prog .and 3 (I ((k >>> i : Nat) : Int)) (I 1) = some (I ((if k.testBit i then 1 else 0 : Nat) : Int)) := by
      rw [show ((1 : Int)) = ((1 : Nat) : Int) from rfl, binA_and (P := Try.prog) 3 (k >>> i) 1 hsl (by omega), bit_test]
    cases htb : k.testBit i with
    | true =>
      rw [htb] at hand hset hcnt
      have e1' : ((if true = true then 1 else 0 : Nat) : Int) = 1 := rfl
      rw [e1'] at hand
      have hcnt' : ((cardB ((bitsL N k).take (i + 1)) : Nat) : Int) = (cardB ((bitsL N k).take i) : Int) + 1 := by rw [if_pos rfl] at hcnt; omega
      simp (disch := first | (simp only [go_sem, gb0, eq_self]; done) | omega | (simp only [gl1, gl2]; omega)) only [go_sem, ↓reduceIte, Nat.reduceEqDiff, Nat.reduceAdd, Nat.reduceMul, Nat.reduceSub, Int.reduceToNat, Nat.reduceBEq, s1, s2, s9, s10, s4, s5, s13, s6, s14, hlt, b0, hsh, hl8, hand, h8, hset, eq_self, decide_true]
      rw [ForK_normal]
      exact ⟨hlt, by simp (disch := first | (simp only [go_sem, gb0, eq_self]; done) | omega | (simp only [gl1, gl2]; omega)) only [go_sem, ↓reduceIte, Nat.reduceEqDiff, Nat.reduceAdd, Nat.reduceMul, Nat.reduceSub, Int.reduceToNat, Nat.reduceBEq, s14], by simp (disch := first | (simp only [go_sem, gb0, eq_self]; done) | omega | (simp only [gl1, gl2]; omega)) only [go_sem, ↓reduceIte, Nat.reduceEqDiff, Nat.reduceAdd, Nat.reduceMul, Nat.reduceSub, Int.reduceToNat, Nat.reduceBEq, s1], by simp (disch := first | (simp only [go_sem, gb0, eq_self]; done) | omega | (simp only [gl1, gl2]; omega)) only [go_sem, ↓reduceIte, Nat.reduceEqDiff, Nat.reduceAdd, Nat.reduceMul, Nat.reduceSub, Int.reduceToNat, Nat.reduceBEq, s2], by simp (disch := first | (simp only [go_sem, gb0, eq_self]; done) | omega | (simp only [gl1, gl2]; omega)) only [go_sem, ↓reduceIte, Nat.reduceEqDiff, Nat.reduceAdd, Nat.reduceMul, Nat.reduceSub, Int.reduceToNat, Nat.reduceBEq, s9], by simp (disch := first | (simp only [go_sem, gb0, eq_self]; done) | omega | (simp only [gl1, gl2]; omega)) only [go_sem, ↓reduceIte, Nat.reduceEqDiff, Nat.reduceAdd, Nat.reduceMul, Nat.reduceSub, Int.reduceToNat, Nat.reduceBEq, s10], by simp (disch := first | (simp only [go_sem, gb0, eq_self]; done) | omega | (simp only [gl1, gl2]; omega)) only [go_sem, ↓reduceIte, Nat.reduceEqDiff, Nat.reduceAdd, Nat.reduceMul, Nat.reduceSub, Int.reduceToNat, Nat.reduceBEq, s4], by simp (disch := first | (simp only [go_sem, gb0, eq_self]; done) | omega | (simp only [gl1, gl2]; omega)) only [go_sem, ↓reduceIte, Nat.reduceEqDiff, Nat.reduceAdd, Nat.reduceMul, Nat.reduceSub, Int.reduceToNat, Nat.reduceBEq, s5], by simp (disch := first | (simp only [go_sem, gb0, eq_self]; done) | omega | (simp only [gl1, gl2]; omega)) only [go_sem, ↓reduceIte, Nat.reduceEqDiff, Nat.reduceAdd, Nat.reduceMul, Nat.reduceSub, Int.reduceToNat, Nat.reduceBEq, s13], by simp (disch := first | (simp only [go_sem, gb0, eq_self]; done) | omega | (simp only [gl1, gl2]; omega)) only [go_sem, ↓reduceIte, Nat.reduceEqDiff, Nat.reduceAdd, Nat.reduceMul, Nat.reduceSub, Int.reduceToNat, Nat.reduceBEq, s6, hcnt'], hnx, by simp (disch := first | (simp only [go_sem, gb0, eq_self]; done) | omega | (simp only [gl1, gl2]; omega)) only [go_sem, ↓reduceIte, Nat.reduceEqDiff, Nat.reduceAdd, Nat.reduceMul, Nat.reduceSub, Int.reduceToNat, Nat.reduceBEq]⟩
    | false =>
      rw [htb] at hand hset hcnt
      have e1' : ((if false = true then 1 else 0 : Nat) : Int) = 0 := rfl
      have e01 : decide ((0 : Int) = 1) = false := by decide
      rw [e1'] at hand
      have hcnt' : cardB ((bitsL N k).take (i + 1)) = cardB ((bitsL N k).take i) := by simpa using hcnt
      have hnil : fillR 8 (fun i => k.testBit i) false (i + 1) = fillR 8 (fun i => k.testBit i) false i := by
        refine list_ext_nth (by rw [fillR_len, fillR_len]) fun c hc => ?_
        rw [fillR_len] at hc
        rw [fillR_nth hc, fillR_nth hc]
        by_cases e : c = i
        · subst e; rw [if_pos (by omega), if_neg (by omega), htb]
        · by_cases e2 : c < i
          · rw [if_pos (by omega), if_pos e2]
          · rw [if_neg (by omega), if_neg e2]
      simp (disch := first | (simp only [go_sem, gb0, eq_self]; done) | omega | (simp only [gl1, gl2]; omega)) only [go_sem, ↓reduceIte, Nat.reduceEqDiff, Nat.reduceAdd, Nat.reduceMul, Nat.reduceSub, Int.reduceToNat, Nat.reduceBEq, s1, s2, s9, s10, s4, s5, s13, s6, s14, hlt, b0, hsh, hl8, hand, h8, e01]
      rw [ForK_normal]
      exact ⟨hlt, by simp (disch := first | (simp only [go_sem, gb0, eq_self]; done) | omega | (simp only [gl1, gl2]; omega)) only [go_sem, ↓reduceIte, Nat.reduceEqDiff, Nat.reduceAdd, Nat.reduceMul, Nat.reduceSub, Int.reduceToNat, Nat.reduceBEq, s14], by simp (disch := first | (simp only [go_sem, gb0, eq_self]; done) | omega | (simp only [gl1, gl2]; omega)) only [go_sem, ↓reduceIte, Nat.reduceEqDiff, Nat.reduceAdd, Nat.reduceMul, Nat.reduceSub, Int.reduceToNat, Nat.reduceBEq, s1], by simp (disch := first | (simp only [go_sem, gb0, eq_self]; done) | omega | (simp only [gl1, gl2]; omega)) only [go_sem, ↓reduceIte, Nat.reduceEqDiff, Nat.reduceAdd, Nat.reduceMul, Nat.reduceSub, Int.reduceToNat, Nat.reduceBEq, s2], by simp (disch := first | (simp only [go_sem, gb0, eq_self]; done) | omega | (simp only [gl1, gl2]; omega)) only [go_sem, ↓reduceIte, Nat.reduceEqDiff, Nat.reduceAdd, Nat.reduceMul, Nat.reduceSub, Int.reduceToNat, Nat.reduceBEq, s9], by simp (disch := first | (simp only [go_sem, gb0, eq_self]; done) | omega | (simp only [gl1, gl2]; omega)) only [go_sem, ↓reduceIte, Nat.reduceEqDiff, Nat.reduceAdd, Nat.reduceMul, Nat.reduceSub, Int.reduceToNat, Nat.reduceBEq, s10], by simp (disch := first | (simp only [go_sem, gb0, eq_self]; done) | omega | (simp only [gl1, gl2]; omega)) only [go_sem, ↓reduceIte, Nat.reduceEqDiff, Nat.reduceAdd, Nat.reduceMul, Nat.reduceSub, Int.reduceToNat, Nat.reduceBEq, s4], by simp (disch := first | (simp only [go_sem, gb0, eq_self]; done) | omega | (simp only [gl1, gl2]; omega)) only [go_sem, ↓reduceIte, Nat.reduceEqDiff, Nat.reduceAdd, Nat.reduceMul, Nat.reduceSub, Int.reduceToNat, Nat.reduceBEq, s5], by simp (disch := first | (simp only [go_sem, gb0, eq_self]; done) | omega | (simp only [gl1, gl2]; omega)) only [go_sem, ↓reduceIte, Nat.reduceEqDiff, Nat.reduceAdd, Nat.reduceMul, Nat.reduceSub, Int.reduceToNat, Nat.reduceBEq, s13], by simp (disch := first | (simp only [go_sem, gb0, eq_self]; done) | omega | (simp only [gl1, gl2]; omega)) only [go_sem, ↓reduceIte, Nat.reduceEqDiff, Nat.reduceAdd, Nat.reduceMul, Nat.reduceSub, Int.reduceToNat, Nat.reduceBEq, s6, hcnt'], hnx, by rw [b0, hnil]⟩
  rintro x st h8 ⟨rfl, s1, s2, s9, s10, s5, s6, hbl⟩ w8 c8 a8 E8 H8 S8 F8
  have E48 := (((E5.trans E6).trans E7).trans E8).below
  rw [hbase4] at E48
  have hj8 : J (selL N M k) w8 := hJ _ _ _ hj4 E48
  have hbl8 := hbl4.trans E48
  have hy8 : a8.tmps[0]? = some (.func (.yield l) #[] #[]) := Eq.trans F8 (Eq.trans F7 (Eq.trans F6 (Eq.trans F5 hy4)))
  have hb8 : c8.base = W.heap.size := ((((E5.trans E6).trans E7).trans E8).base).trans hbase4
  clear H4 S4 H5 S5 H6 S6 H7 S7 F5 F6 F7 F8 E5 E6 E7 E8 E48 hj4 hy4 hbl4
  refine wpIn_mono (Q := fun x a' w' => (x = .normal ∧ ∃ ctx h st, HR w' ctx h ∧ SR 37 w' ctx st a' ∧ ctx.base = W.heap.size ∧ st 1 = .pp [I N] ∧ st 2 = .pp [I M] ∧ st 9 = I B ∧ st 10 = I k ∧ J (selL N M (k + 1)) w' ∧ Below W.heap.size W w' ∧ a'.tmps[0]? = some (.func (.yield l) #[] #[])) ∨
      (x = .ret ∧ a'.defers = [] ∧ ∃ pre x, pre ++ [x] <+: selL N M B ∧ Jx (pre ++ [x]) w')) ?_ ?_
  · cases hok : setOk N M k with
    | false =>
      have hne : ¬ ((cardB (bitsL N k) : Nat) : Int) = M := by
        have : ¬ cardB (bitsL N k) = M := of_decide_eq_false hok
        omega
      have hsame : selL N M (k + 1) = selL N M k := by rw [selL_succ, hok]; simp
      refine WP.in_ hext0 hlate0 0 rfl rfl (R := fun x st h' => x = .normal ∧ st 1 = .pp [I N] ∧ st 2 = .pp [I M] ∧ st 9 = I B ∧ st 10 = I k) ?_ H8 S8 ?_
      · simp (disch := first | (simp only [go_sem, gb0, eq_self]; done) | omega | (simp only [gl1, gl2]; omega)) only [go_sem, ↓reduceIte, Nat.reduceEqDiff, Nat.reduceAdd, Nat.reduceMul, Nat.reduceSub, Int.reduceToNat, Nat.reduceBEq, s1, s2, s9, s10, s5, s6, hne]
      rintro x st h9 ⟨rfl, s1, s2, s9, s10⟩ w9 c9 a9 E9 H9 S9 F9
      have hb9 := E9.below
      rw [hb8] at hb9
      exact .inl ⟨rfl, c9, h9, st, H9, S9, E9.base.trans hb8, s1, s2, s9, s10, by rw [hsame]; exact hJ _ _ _ hj8 hb9, hbl8.trans hb9, Eq.trans F9 hy8⟩
    | true =>
      have heq : cardB (bitsL N k) = M := of_decide_eq_true hok
      have hsucc : selL N M (k + 1) = selL N M k ++ [actsA (bitsL N k)] := by rw [selL_succ, hok]; rfl
      have hpre : selL N M k ++ [actsA (bitsL N k)] <+: selL N M B := by rw [← hsucc]; exact selL_pre (by omega)
      refine wpIn_seq (wpIn_region ?_)
      show wpOpsIn (rF none) m Try.prog _ _ ([0, 1, 2, 3] ++ [4, 5, 6, 7, 8]) a8 w8
      refine ops_pre hext0 (n := 37) 0 rfl rfl [0, 1, 2, 3] [4, 5, 6, 7, 8] (R := fun st h' => (st 1 = .pp [I N] ∧ st 2 = .pp [I M] ∧ st 9 = I B ∧ st 10 = I k ∧ st 5 = .ptr id 0) ∧ st 30 = .bool true ∧ h' = h8) ?_ H8 S8 ?_
      · simp only [List.filterMap_cons, List.filterMap_nil, List.getElem?_toArray, List.getElem?_cons_zero, List.getElem?_cons_succ]
        simp (disch := first | (simp only [go_sem, gb0, eq_self]; done) | omega | (simp only [gl1, gl2]; omega)) only [go_sem, ↓reduceIte, Nat.reduceEqDiff, Nat.reduceAdd, Nat.reduceMul, Nat.reduceSub, Int.reduceToNat, Nat.reduceBEq, s1, s2, s9, s10, s5, s6, heq, eq_self, decide_true]
      rintro st h9 ⟨⟨s1, s2, s9, s10, s5⟩, s30, rfl⟩ w9 c9 a9 E9 H9 S9 F9
      have hb9 := E9.below
      rw [hb8] at hb9
      have hbase9 : c9.base = W.heap.size := E9.base.trans hb8
      have hj9 : J (selL N M k) w9 := hJ _ _ _ hj8 hb9
      have hbl9 := hbl8.trans hb9
      have y0 : a9.tmps[0]? = some (.func (.yield l) #[] #[]) := Eq.trans F9 hy8
      have y30 := tmp_bool S9 (t := 30) (by decide) s30
      clear H8 S8 E9 hb9 hj8 hbl8 F9 hy8 hb8
      refine op_value (o := ⟨some 31, .move (.tmp 0), 118, _, _, some (3, true)⟩) rfl (wanted_some rfl (yielded_at rfl y30)) (fun c h => by cases h) (x := a9.eval (.tmp 0)) (w' := w9) rfl ?_
      rw [eval_tmp y0]
      have S10 := S9.put (d := some 31) (fun t ht => by cases ht; decide) (VR.undef (w := w9) (c := c9) (.func (.yield l) #[] #[]))
      have y31 := put_at (v := .func (.yield l) #[] #[]) S9.size (show 31 < 37 by decide)
      have y30' := (put_other' (v := .func (.yield l) #[] #[]) (show 31 ≠ 30 by decide)).trans y30
      have y0' := (put_other' (v := .func (.yield l) #[] #[]) (show 31 ≠ 0 by decide)).trans y0
      generalize a9.put (some 31) (.func (.yield l) #[] #[]) = a10 at *
      have hload : StepW Try.prog cfg #[] none (.load 101 (.tmp 5)) (updO st (some 31) .undef) h9 (fun v g => v = actsA (bitsL N k) ∧ g = h9) := by
        have hld := loadC_agg (.array 8 4) 8 rfl ((pad8 (bitsL N k)).flatMap (e1 .bool)) 0 (by rw [flat_len, pad8_len]; exact Nat.le_refl _)
        have htk : (((pad8 (bitsL N k)).flatMap (e1 AV.bool)).drop 0).take 8 = (pad8 (bitsL N k)).flatMap (e1 AV.bool) := by
          rw [List.drop_zero, List.take_of_length_le (by rw [flat_len, pad8_len]; exact Nat.le_refl _)]
        rw [htk] at hld
        simp (disch := first | (simp only [go_sem, gb0, eq_self]; done) | omega | (simp only [gl1, gl2]; omega)) only [go_sem, ↓reduceIte, Nat.reduceEqDiff, Nat.reduceAdd, Nat.reduceMul, Nat.reduceSub, Int.reduceToNat, Nat.reduceBEq, s5, hbl, hld]
        exact rfl
      obtain ⟨kk, v, g, e, rfl, hg⟩ := hload
      rw [hg] at e
      have hu : opRead Try.prog (.load 101 (.tmp 5)) (ev (updO st (some 31) .undef)) h9 none = some (actsA (bitsL N k)) := by
        unfold stepK at e
        have hp : opPure Try.prog (.load 101 (.tmp 5)) (ev (updO st (some 31) .undef)) = none := rfl
        simp only [hp] at e
        cases hq : opRead Try.prog (.load 101 (.tmp 5)) (ev (updO st (some 31) .undef)) h9 none with
        | some u => rw [hq] at e; simp only [Option.some.injEq, Prod.mk.injEq, and_true] at e; rw [e]
        | none => rw [hq] at e; simp [opNew, opWrite] at e
      obtain ⟨v8, hr8, V8⟩ := opRead_ok (P := Try.prog) (o := ⟨some 32, .load 101 (.tmp 5), 101, "corner.go:35", #[⟨3, .guard⟩], some (3, true)⟩) H9 S10.ev hu
      refine op_value (o := ⟨some 32, .load 101 (.tmp 5), 101, _, _, some (3, true)⟩) rfl (wanted_some rfl (yielded_at rfl y30')) (fun c h => by cases h) hr8 ?_
      have S11 := S10.put (d := some 32) (fun t ht => by cases ht; decide) V8
      have z32 := put_at (v := v8) S10.size (show 32 < 37 by decide)
      have z31 := (put_other' (v := v8) (show 32 ≠ 31 by decide)).trans y31
      have z30 := (put_other' (v := v8) (show 32 ≠ 30 by decide)).trans y30'
      have z0 := (put_other' (v := v8) (show 32 ≠ 0 by decide)).trans y0'
      dsimp only at *
      generalize a10.put (some 32) v8 = a11 at *
      refine op_yield (o := ⟨some 33, .call ⟨.value (.tmp 31), #[.tmp 32], #[101]⟩, 4, _, _, some (3, true)⟩) rfl (wanted_some rfl (yielded_at rfl z30)) rfl (eval_tmp z31) (eval_tmp z32)
        (hY (selL N M k) (actsA (bitsL N k)) v8 w9 hpre hbl9 hj9 (acts_rep V8 _ _ _)) ?_
      rintro e w10 hres
      obtain ⟨b, he, hd⟩ : ∃ b, e = .returned (.bool b) ∧ ((b = true ∧ J (selL N M k ++ [actsA (bitsL N k)]) w10 ∧ Below w9.heap.size w9 w10) ∨ (b = false ∧ Jx (selL N M k ++ [actsA (bitsL N k)]) w10)) := by
        rcases hres with ⟨rfl, h1, h2⟩ | ⟨rfl, h1, _⟩
        · exact ⟨true, rfl, .inl ⟨rfl, h1, h2⟩⟩
        · exact ⟨false, rfl, .inr ⟨rfl, h1⟩⟩
      refine ⟨b, he, ?_⟩
      have u33 := put_at (v := .bool b) S11.size (show 33 < 37 by decide)
      have u30 := (put_other' (v := .bool b) (show 33 ≠ 30 by decide)).trans z30
      have u0 := (put_other' (v := .bool b) (show 33 ≠ 0 by decide)).trans z0
      refine op_value (o := ⟨some 34, .unOp .not 4 (.tmp 33), 4, _, _, some (3, true)⟩) rfl (wanted_some rfl (yielded_at rfl u30)) (fun c h => by cases h) (not_run' (eval_tmp u33)) ?_
      have v34 := put_at (v := .bool (!b)) (put_size (t := 33) (v := .bool b) S11.size) (show 34 < 37 by decide)
      have v30 := (put_other' (v := .bool (!b)) (show 34 ≠ 30 by decide)).trans u30
      have v0 := (put_other' (v := .bool (!b)) (show 34 ≠ 0 by decide)).trans u0
      refine op_value (o := ⟨some 35, .pick (.tmp 30) (.tmp 34) (.const (.bool false)), 4, _, _, none⟩) rfl (wanted_none rfl) (fun c h => by cases h) (pick_run (eval_tmp v30)) ?_
      rw [if_pos rfl, eval_tmp v34]
      have x35 := put_at (v := .bool (!b)) (put_size (t := 34) (v := .bool (!b)) (put_size (t := 33) (v := .bool b) S11.size)) (show 35 < 37 by decide)
      have x0 := (put_other' (v := .bool (!b)) (show 35 ≠ 0 by decide)).trans v0
      show (Code.cond (.tmp 35) .ret .skip).wpIn (rF none) m Try.prog _ _ _
      rcases hd with ⟨rfl, hj10, hB10⟩ | ⟨rfl, hjx⟩
      · refine wpIn_cond_false (eval_tmp x35) (wpIn_skip (.inl ⟨rfl, ?_⟩))
        have E10 := Ext.grow H9 hB10 c9.fz (fun _ h => h) (fun _ h => .inl h)
        have H10 := H9.grow hB10 c9.fz (fun _ h => h) (fun _ h => .inl h)
        have S12 := (((S11.mono E10).put (d := some 33) (fun t ht => by cases ht; decide) (VR.bool (w := w10) true)).put (d := some 34) (fun t ht => by cases ht; decide) (VR.bool (w := w10) false)).put (d := some 35) (fun t ht => by cases ht; decide) (VR.bool (w := w10) false)
        have hb10 : Below W.heap.size w9 w10 := Below.mono' hB10 hbl9.size
        exact ⟨_, h9, _, H10, S12, E10.base.trans hbase9, s1, s2, s9, s10, by rw [hsucc]; exact hj10, hbl9.trans hb10, x0⟩
      · exact wpIn_cond_true (eval_tmp x35) (wpIn_ret (.inr ⟨rfl, S11.defers, _, _, hpre, hjx⟩))
  · rintro x a9 w9 (⟨rfl, c9, h9, st, H9, S9, hb9, s1, s2, s9, s10, hj9, hbl9, hy9⟩ | ⟨rfl, hd, pre, x, hpx, hjx⟩)
    · refine WP.in_ hext0 hlate0 0 rfl rfl (R := fun x st' h' => x = .normal ∧ st' 1 = .pp [I N] ∧ st' 2 = .pp [I M] ∧ st' 9 = I B ∧ st' 10 = I ((k + 1 : Nat) : Int)) ?_ H9 S9 ?_
      · simp (disch := first | (simp only [go_sem, gb0, eq_self]; done) | omega | (simp only [gl1, gl2]; omega)) only [go_sem, ↓reduceIte, Nat.reduceEqDiff, Nat.reduceAdd, Nat.reduceMul, Nat.reduceSub, Int.reduceToNat, Nat.reduceBEq, s1, s2, s9, s10]
        rfl
      rintro x st h10 ⟨rfl, s1, s2, s9, s10⟩ w10 c10 a10 E10 H10 S10 F10
      have hval : a10.tmps.getD 10 Go.undef = .int .i64 ((k + 1 : Nat) : Int) := by
        have := S10.val 10
        rw [s10] at this
        generalize a10.tmps.getD 10 Go.undef = v at this
        cases this; rfl
      have hbb := E10.below
      rw [hb9] at hbb
      refine ⟨⟨c10, h10, st, k + 1, H10, S10, E10.base.trans hb9, s1, s2, s9, s10, by omega, hJ _ _ _ hj9 hbb, hbl9.trans hbb, Eq.trans F10 hy9⟩, ?_⟩
      show B - (intOf (a10.tmps.getD 10 Go.undef)).toNat < B - (intOf (a.tmps.getD 10 Go.undef)).toNat
      rw [hval, hval10]
      simp only [intOf]
      omega
    · exact ⟨hd, _, results_none rfl _ _ _, ⟨_, rfl⟩, .inr ⟨pre, x, hpx, hjx⟩⟩
end Go.Proofs.Ytcdpkgmkckfonaa

set_option linter.unusedVariables false
set_option linter.unusedSimpArgs false
set_option maxRecDepth 10000
namespace Go.Proofs.Ytcdpkgmkckfonaa
open Go Go.Am Go.RowKit

variable {h h' : Hp} {K : AV → Hp → Prop}

theorem run_load1 {P : Program} {ρ : Operand → Value} {w : World} {d : Option Nat} {t u : TypeId} {p : Operand} {pos : String} {es : Array Edge} {g : Option (Nat × Bool)} {ad : Addr} {v : Value} {desc : TypeDesc} (hd : P.underlying t = some desc) (ha : aggD desc = false) (hp : ρ p = .pointer (some ad)) (hc : w.cell? ad = some v) :
    (execOp ρ ⟨d, .load t p, u, pos, es, g⟩).run P w = .ok (.value v) w := by
  simp [execOp, Instr.loadAt, hp, Instr.sureAddr, loadVar, run_isAgg hd, ha, run_load, hc]
theorem run_box1 {P : Program} {ρ : Operand → Value} {w : World} {d : Option Nat} {t u : TypeId} {x : Operand} {pos : String} {es : Array Edge} {g : Option (Nat × Bool)} {v : Value} (hx : ρ x = v) (hv : v.cells = #[v]) :
    (execOp ρ ⟨d, .box t x, u, pos, es, g⟩).run P w = .ok (.value (.pointer (some ⟨w.heap.size, 0, none⟩))) (w.alloc (.cells #[v] t)) := by
  simp [execOp, Instr.box, newVar, newRow, hx, hv]
theorem sealV_ptr {id : Nat} {fz row : Bool} {xs : List AV} (hx : AV.pureL xs = true) (hb : h.bl id = some (.cells fz row xs)) : sealV h (.ptr id 0) = some (.pp xs, h.put id (some (.cells true row xs))) := by
  show sealV0 h (.ptr id 0) = _
  unfold sealV0
  rw [if_neg (by simp [AV.isPure])]
  simp only [hb]
  rw [if_pos ⟨hx, Nat.zero_le _⟩]; rfl
theorem f79_con (x y : Int) : Con Try.prog cfg 79 [I x, I y] (.fn 82 [.pp [I x], .pp [I y]]) := by
  refine Con_intro Try.func79 rfl ok79 (Nat.le_of_ble_eq_true rfl) rfl ?_
  simp only [Try.f79, Option.getD_some, initSt2]
  simp (disch := first | (simp only [go_sem, gb0, eq_self]; done) | omega | (simp only [gl1, gl2]; omega)) only [go_sem, ↓reduceIte, Nat.reduceEqDiff, Nat.reduceAdd, Nat.reduceMul, Nat.reduceSub, Int.reduceToNat, Nat.reduceBEq]
  show ((exportV Try.prog false false 114 ((Hp.empty.alloc (.cells false false [I x])).alloc (.cells false false [I y])) [] (.fn 82 [.ptr 0 0, .ptr 1 0])).bind fun r => if isTup r.1 then none else some r.1) = _
  have s1 := sealV_ptr (h := (Hp.empty.alloc (.cells false false [I x])).alloc (.cells false false [I y])) (id := 0) (fz := false) (row := false) (xs := [I x]) rfl rfl
  have s2 := sealV_ptr (h := ((Hp.empty.alloc (.cells false false [I x])).alloc (.cells false false [I y])).put 0 (some (.cells true false [I x]))) (id := 1) (fz := false) (row := false) (xs := [I y]) rfl rfl
  obtain ⟨G, hs⟩ : ∃ G, sealA ((Hp.empty.alloc (.cells false false [I x])).alloc (.cells false false [I y])) (.fn 82 [.ptr 0 0, .ptr 1 0]) = some (.fn 82 [.pp [I x], .pp [I y]], G) := by
    have hp : (AV.fn 82 [.ptr 0 0, .ptr 1 0]).isPure = false := rfl
    simp only [sealA, hp, sealCells, s1, s2, Option.bind_some, Option.map_some, Bool.false_eq_true, if_false]
    exact ⟨_, rfl⟩
  rw [exportV_plain, hs]; rfl
theorem f68_con (a : List (List Int)) : Con Try.prog cfg 68 [LLI a] (.fn 78 [.pp [LLI a]]) := by
  refine Con_intro Try.func68 rfl ok68 (Nat.le_of_ble_eq_true rfl) rfl ?_
  simp only [Try.f68, Option.getD_some, initSt1]
  simp (disch := first | (simp only [go_sem, gb0, eq_self]; done) | omega | (simp only [gl1, gl2]; omega)) only [go_sem, ↓reduceIte, Nat.reduceEqDiff, Nat.reduceAdd, Nat.reduceMul, Nat.reduceSub, Int.reduceToNat, Nat.reduceBEq]
  have s1 := sealV_ptr (h := Hp.empty.alloc (.cells false false [LLI a])) (id := 0) (fz := false) (row := false) (xs := [LLI a]) (by simp [AV.pureL, pure_L]) rfl
  show ((exportV Try.prog false false 98 (Hp.empty.alloc (.cells false false [LLI a])) [] (.fn 78 [.ptr 0 0])).bind fun r => if isTup r.1 then none else some r.1) = _
  obtain ⟨G, hs⟩ : ∃ G, sealA (Hp.empty.alloc (.cells false false [LLI a])) (.fn 78 [.ptr 0 0]) = some (.fn 78 [.pp [LLI a]], G) := by
    have hp : (AV.fn 78 [.ptr 0 0]).isPure = false := rfl
    simp only [sealA, hp, sealCells, s1, Option.bind_some, Option.map_some, Bool.false_eq_true, if_false]
    exact ⟨_, rfl⟩
  rw [exportV_plain, hs]; rfl
theorem fn_inv2 {g : FuncId} {x y : Int} {w : World} {c : Ctx} {v : Value} (h : VR w c (.fn g [.pp [I x], .pp [I y]]) v) :
    ∃ ad1 ad2, v = .func (.func g) #[] #[.pointer (some ad1), .pointer (some ad2)] ∧ w.cell? ad1 = some (.int .i64 x) ∧ w.cell? ad2 = some (.int .i64 y) ∧ ad1.block < w.heap.size ∧ ad2.block < w.heap.size := by
  generalize hq : ([.pp [I x], .pp [I y]] : List AV) = q at h
  have one : ∀ {z : Int} {u : Value}, VR w c (.pp [I z]) u → ∃ ad, u = .pointer (some ad) ∧ w.cell? ad = some (.int .i64 z) ∧ ad.block < w.heap.size := by
    intro z u hu
    generalize hz : ([I z] : List AV) = l at hu
    cases hu with
    | pp _ ad cv hfz hcell hc hv =>
      subst hz
      have h0 := hc 0 (by simp)
      have h1 := hv 0 _ rfl
      have e0 : ad.add 0 = ad := by unfold Addr.add; simp
      rw [e0] at h0
      have h2 : cv 0 = .int .i64 z := by
        generalize cv 0 = t at h1
        cases h1; rfl
      rw [h2] at h0
      refine ⟨ad, rfl, h0, ?_⟩
      unfold World.cell? at h0
      cases hb : w.heap[ad.block]? with
      | none => rw [hb] at h0; simp at h0
      | some o => exact (Array.getElem?_eq_some_iff.1 hb).1
  cases h with
  | fn _ _ vs hl hv =>
    subst hq
    obtain ⟨ad1, e1, c1, b1⟩ := one (hv 0 _ rfl)
    obtain ⟨ad2, e2, c2, b2⟩ := one (hv 1 _ rfl)
    have hs : vs.size = 2 := hl.symm
    refine ⟨ad1, ad2, ?_, c1, c2, b1, b2⟩
    congr 1
    refine Array.ext (by simp [hs]) fun j h1 h2 => ?_
    have hj : j = 0 ∨ j = 1 := by omega
    rcases hj with rfl | rfl
    · rw [Array.getD_eq_getD_getElem?, Array.getElem?_eq_getElem h1] at e1; exact e1
    · rw [Array.getD_eq_getD_getElem?, Array.getElem?_eq_getElem h1] at e2; exact e2
theorem fn_inv1 {g : FuncId} {x : AV} {w : World} {c : Ctx} {v : Value} (h : VR w c (.fn g [x]) v) : ∃ u, v = .func (.func g) #[] #[u] ∧ VR w c x u := by
  generalize hq : ([x] : List AV) = q at h
  cases h with
  | fn _ _ vs hl hv =>
    subst hq
    have hs : vs.size = 1 := hl.symm
    refine ⟨vs.getD 0 Go.undef, ?_, hv 0 _ rfl⟩
    congr 1
    refine Array.ext (by simp [hs]) fun j h1 h2 => ?_
    have : j = 0 := by omega
    subst this
    show vs[0] = vs.getD 0 Go.undef
    rw [Array.getD_eq_getD_getElem?, Array.getElem?_eq_getElem h1]; rfl
/-- The numbers of the sets, and the corners of the first of them. -/
def setsN (m n : Nat) : List Nat := (List.range (2 ^ (m + n))).filter (setOk (m + n) m)
theorem selL_sets (m n : Nat) : selL (m + n) m (2 ^ (m + n)) = (setsN m n).map fun x => actsA (bitsL (m + n) x) := rfl
def corsK (a : List (List Int)) (m n j : Nat) : List AV := (((setsN m n).take j).filter fun x => okCor a m n (bitsL (m + n) x)).map fun x => corOf a m n (bitsL (m + n) x)
def corsL (a : List (List Int)) (m n : Nat) : List AV := ((setsN m n).filter fun x => okCor a m n (bitsL (m + n) x)).map fun x => corOf a m n (bitsL (m + n) x)
theorem corsK_full (a : List (List Int)) (m n : Nat) {j : Nat} (h : (setsN m n).length ≤ j) : corsK a m n j = corsL a m n := by unfold corsK; rw [List.take_of_length_le h]; rfl
theorem corsK_succ {a : List (List Int)} {m n j x : Nat} (h : (setsN m n)[j]? = some x) : corsK a m n (j + 1) = corsK a m n j ++ (if okCor a m n (bitsL (m + n) x) then [corOf a m n (bitsL (m + n) x)] else []) := by
  unfold corsK
  rw [List.take_add_one, h]
  simp only [Option.toList, List.filter_append, List.map_append]
  congr 1
  by_cases e : okCor a m n (bitsL (m + n) x) = true
  · simp [e]
  · simp [e]
theorem corsK_pre (a : List (List Int)) (m n j : Nat) : corsK a m n j <+: corsL a m n := by
  unfold corsK corsL
  have h := List.take_append_drop j (setsN m n)
  rw [← h]
  conv => rhs; rw [h, ← h, List.filter_append, List.map_append]
  have : List.take j (List.take j (setsN m n) ++ List.drop j (setsN m n)) = List.take j (setsN m n) := by rw [h]
  rw [this]
  exact List.prefix_append _ _
/-- What is handed over is one of the sets. -/
theorem sets_at {m n : Nat} {pre : List AV} {x : AV} (h : pre ++ [x] <+: selL (m + n) m (2 ^ (m + n))) : ∃ y, (setsN m n)[pre.length]? = some y ∧ x = actsA (bitsL (m + n) y) ∧ cardB (bitsL (m + n) y) = m := by
  obtain ⟨r, hr⟩ := h
  rw [selL_sets] at hr
  have h1 : ((setsN m n).map fun x => actsA (bitsL (m + n) x))[pre.length]? = some x := by
    rw [← hr, List.append_assoc, List.getElem?_append_right (Nat.le_refl _)]; simp
  rw [List.getElem?_map] at h1
  cases hy : (setsN m n)[pre.length]? with
  | none => rw [hy] at h1; cases h1
  | some y =>
    rw [hy] at h1
    refine ⟨y, rfl, (Option.some.inj h1).symm, ?_⟩
    have := List.mem_of_getElem? hy
    unfold setsN at this
    exact of_decide_eq_true (List.mem_filter.1 this).2
end Go.Proofs.Ytcdpkgmkckfonaa

set_option linter.unusedVariables false
set_option linter.unusedSimpArgs false
set_option maxRecDepth 10000
namespace Go.Proofs.Ytcdpkgmkckfonaa
open Go Go.Am Go.RowKit

variable {h h' : Hp} {K : AV → Hp → Prop}

theorem enters82 (args : Array Value) (w : World) : (callFunc 82 args).run Try.prog w = .ok (.enter 82 args) w := Go.Proofs.enters_of Try.func82 (by kernel_rfl) rfl args w
theorem enters78 (args : Array Value) (w : World) : (callFunc 78 args).run Try.prog w = .ok (.enter 78 args) w := Go.Proofs.enters_of Try.func78 (by kernel_rfl) rfl args w
theorem store8 (id : Nat) (bs cs : List Bool) (hb : bs.length = 8) (hc : cs.length = 8) : storeC h id 0 8 (some (.cells false false (bs.flatMap (e1 AV.bool)))) (cs.flatMap (e1 AV.bool)) = some (.skp, h.put id (some (.cells false false (cs.flatMap (e1 AV.bool))))) := by
  have h1 : (cs.flatMap (e1 AV.bool)).length = 8 := by rw [flat_len, hc]
  have h2 : (bs.flatMap (e1 AV.bool)).length = 8 := by rw [flat_len, hb]
  rw [storeC_many id 0 8 false _ _ h1 (List.all_eq_true.2 fun y hy => by
    obtain ⟨b, _, hb⟩ := List.mem_flatMap.1 hy
    simp only [e1, List.mem_singleton] at hb
    rw [hb]; rfl) (by omega)]
  have := setL_all (bs.flatMap (e1 AV.bool)) (cs.flatMap (e1 AV.bool)) [] (by omega)
  simp only [List.nil_append, List.length_nil] at this
  rw [this]
theorem ConW_pure {g : FuncId} {args : List AV} {r : AV} (hc : Con Try.prog cfg g args r) (ho : cfg.own g = false) : ConW Try.prog cfg g h (some (args, h)) K = K r h := by
  have hp : r.isPure = true := by
    obtain ⟨k, e⟩ := hc
    exact callP_pure (fun _ _ _ h => by cases h) ho e
  by_cases hs : r.isScalar = true
  · exact ConW_num hc hs
  · have hs' : r.isScalar = false := by simpa using hs
    by_cases hf : r.isFree = true
    · rw [ConW_free hc hs' hf, importR_of_pure hp]
    · rw [ConW_any hc hs' (by simpa using hf), importR_of_pure hp]
theorem below_of {n m : Nat} {A B : World} (h : Below n A B) (hm : m ≤ n) : Below m A B := Below.mono' h hm

theorem corners_seq {a : List (List Int)} {m n : Nat} (T : Tb a m n) (mm : Nat) {w : World} {c : Ctx} {pv : Value} (hv : VR w c (.pp [LLI a]) pv) (hfz : ∀ b, c.fz b → b < w.heap.size) : SeqN Try.prog (mm + 1) 78 #[pv] c.fz (corsL a m n) w := by
  intro l J Jx W hW hJ hX hY h0
  have hm1 := T.m1
  have hm4 := T.m4
  have hn1 := T.n1
  have hn4 := T.n4
  obtain ⟨c0, hc0⟩ : ∃ c' : Ctx, c' = { base := W.heap.size, nx := 0, loc := fun _ => .dead, fz := c.fz } := ⟨_, rfl⟩
  have H0 : HR W c0 Hp.empty := by rw [hc0]; exact ctx_nil fun b hb => Nat.lt_of_lt_of_le (hfz b hb) hW.size
  have V0 : VR W c0 (.pp [LLI a]) pv := by rw [hc0]; exact hv.pure_mono ⟨fun b hb => hb, fun b hb => hW.block b (hfz b hb)⟩ (by show AV.pureL [LLI a] = true; simp only [AV.pureL, Bool.and_true]; exact pure_L _)
  have S0 : SR 30 W c0 (initSt [.undef, .pp [LLI a]]) { tmps := #[.func (.yield l) #[] #[], pv] ++ Array.replicate (30 - 2) Go.undef, defers := [] } := by
    refine args_start (n := 30) ⟨rfl, fun j v hj => ?_⟩ (Nat.le_of_ble_eq_true rfl)
    match j, hj with
    | 0, hj => cases hj; exact .undef _
    | 1, hj => cases hj; exact V0
  have hbase0 : c0.base = W.heap.size := by rw [hc0]
  have hfz0 : c0.fz = c.fz := by rw [hc0]
  refine callsIn_of_wp_marks (fn := Try.f78) (c := Try.f78.body.getD .skip) Try.func78 rfl trivial ?_
  have hntm : Try.f78.ntmps = 30 := rfl
  rw [hntm]
  have hy0 : ({ tmps := #[.func (.yield l) #[] #[], pv] ++ Array.replicate (30 - 2) Go.undef, defers := [] } : Act).tmps[0]? = some (.func (.yield l) #[] #[]) := by simp
  obtain ⟨a0, ha0⟩ : ∃ a0 : Act, { tmps := #[.func (.yield l) #[] #[], pv] ++ Array.replicate (30 - 2) Go.undef, defers := [] } = a0 := ⟨_, rfl⟩
  rw [ha0] at S0 hy0
  have hgo : (Try.f78.body.getD .skip).wpIn (rF none) (mm + 1) Try.prog (bodyPostM (rF none) (mm + 1) Try.prog Try.f78 fun e W' => (∃ v, e = .returned v) ∧ (J (corsL a m n) W' ∨ (∃ pre x, pre ++ [x] <+: corsL a m n ∧ Jx (pre ++ [x]) W'))) a0 W := ?_
  · rw [← ha0] at hgo; exact hgo
  generalize hQ : bodyPostM (rF none) (mm + 1) Try.prog Try.f78 (fun e W' => (∃ v, e = .returned v) ∧ (J (corsL a m n) W' ∨ (∃ pre x, pre ++ [x] <+: corsL a m n ∧ Jx (pre ++ [x]) W'))) = Q
  simp only [Try.f78, Option.getD_some]
  -- the box
  refine wpIn_seq (wpIn_region ?_)
  show wpOpsIn (rF none) (mm + 1) Try.prog _ _ [0] a0 W
  refine op_value (o := ⟨some 2, .box 112 (.tmp 0), 0, _, _, none⟩) rfl (wanted_none rfl) (fun c h => by cases h) (run_box1 (v := .func (.yield l) #[] #[]) (eval_tmp hy0) rfl) ?_
  obtain ⟨B, hB⟩ : ∃ B, B = W.heap.size := ⟨_, rfl⟩
  have hbel : Below W.heap.size W (W.alloc (.cells #[.func (.yield l) #[] #[]] 112)) := (Below.refl _ W).alloc (Nat.le_refl _) _
  have hbox : (W.alloc (.cells #[.func (.yield l) #[] #[]] 112)).heap[B]? = some (.cells #[.func (.yield l) #[] #[]] 112) := by rw [hB]; exact World.alloc_heap_new W _
  have hsz : (W.alloc (.cells #[.func (.yield l) #[] #[]] 112)).heap.size = B + 1 := by rw [hB]; simp
  generalize W.alloc (.cells #[.func (.yield l) #[] #[]] 112) = W1 at *
  have gB : ∀ b, (c0.fz b ∨ b = B) → c0.fz b ∨ (W.heap.size ≤ b ∧ b < W1.heap.size) := fun b hb => by
    rcases hb with hb | rfl
    · exact .inl hb
    · exact .inr ⟨by omega, by omega⟩
  have E1 := Ext.grow H0 hbel (fun b => c0.fz b ∨ b = B) (fun _ h => .inl h) gB
  have H1 := H0.grow hbel (fun b => c0.fz b ∨ b = B) (fun _ h => .inl h) gB
  have S1 := (S0.mono E1).put (d := some 2) (fun t ht => by cases ht; decide) (VR.undef (w := W1) (c := { c0 with fz := fun b => c0.fz b ∨ b = B }) (.pointer (some ⟨W.heap.size, 0, none⟩)))
  have y2 := put_at (v := .pointer (some ⟨W.heap.size, 0, none⟩)) S0.size (show 2 < 30 by decide)
  rw [← hB] at y2 S1
  show Exit.then _ _ .normal _ _
  have t1 : (updO (initSt [.undef, .pp [LLI a]]) (some 2) .undef) 1 = .pp [LLI a] := rfl
  rw [← hB]
  generalize updO (initSt [.undef, .pp [LLI a]]) (some 2) .undef = st at *
  generalize a0.put (some 2) (.pointer (some ⟨B, 0, none⟩)) = a1 at *
  have hla := T.len
  have hl0 := T.row 0 (by omega)
  have hcast : ((m + n : Nat) : Int) = (m : Int) + n := by omega
  have k79 := fun h h' K (x y : Int) => ConW_any (h := h) (h' := h') (K := K) (f79_con x y) rfl
  have hi79 : ∀ (h : Hp) (x y : Int), importR h (.fn 82 [.pp [I x], .pp [I y]]) = (.fn 82 [.pp [I x], .pp [I y]], h) := fun _ _ _ => rfl
  obtain ⟨c1, hc1⟩ : ∃ c1 : Ctx, c1 = { c0 with fz := fun b => c0.fz b ∨ b = B } := ⟨_, rfl⟩
  rw [← hc1] at E1 H1 S1
  have hbase1 : c1.base = W.heap.size := by rw [hc1]; exact hbase0
  have hfz1 : ∀ b, c1.fz b ↔ (c.fz b ∨ b = B) := fun b => by rw [hc1, ← hfz0]
  refine wpIn_seq (WP.in_ hext0 hlate0 2 rfl (by kernel_rfl) (R := fun x st h' => x = .normal ∧ st 1 = .pp [LLI a] ∧ st 15 = .fn 82 [.pp [I ((m + n : Nat) : Int)], .pp [I m]] ∧ h' = Hp.empty) ?_ H1 S1 ?_)
  · rw [hcast]
    simp (disch := first | (simp only [go_sem, gb0, eq_self]; done) | omega | (simp only [gl1, gl2]; omega)) only [go_sem, ↓reduceIte, Nat.reduceEqDiff, Nat.reduceAdd, Nat.reduceMul, Nat.reduceSub, Int.reduceToNat, Nat.reduceBEq, t1, hla, hl0, k79, hi79]
  rintro x st2 h2 ⟨rfl, s1, s15, rfl⟩ w2 c2 a2 E2 H2 S2 F2
  have y2' : a2.tmps[2]? = some (.pointer (some ⟨B, 0, none⟩)) := Eq.trans F2 y2
  have hW2 : Below W.heap.size W w2 := by
    have := E2.below
    rw [hbase1] at this
    exact hbel.trans this
  have hBlt : B < W1.heap.size := by omega
  have hle2 : W.heap.size ≤ w2.heap.size := hW2.size
  have hbox2 : w2.heap[B]? = some (.cells #[.func (.yield l) #[] #[]] 112) := (E2.keep B ((hfz1 B).2 (.inr rfl))).trans hbox
  have hB2 : B < w2.heap.size := (Array.getElem?_eq_some_iff.1 hbox2).1
  have hbase2 : c2.base = W.heap.size := E2.base.trans hbase1
  have hfz2 : ∀ b, c2.fz b → c.fz b ∨ W.heap.size ≤ b := fun b hb => by
    rcases E2.fzb b hb with h | h
    · rcases (hfz1 b).1 h with h | h
      · exact .inl h
      · exact .inr (by omega)
    · rw [hbase1] at h; exact .inr h
  have hfz2' : ∀ b, c.fz b → c2.fz b := fun b hb => E2.fz b ((hfz1 b).2 (.inl hb))
  have hfz2B : c2.fz B := E2.fz B ((hfz1 B).2 (.inr rfl))
  have hj2 : J [] w2 := hJ _ _ _ h0 hW2
  clear E2 E1 H1 S1 H0 S0 hbox y2 F2
  obtain ⟨ad1, ad2, e15, hcl1, hcl2, hb1, hb2⟩ := fn_inv2 (by have := S2.ev (.tmp 15); rwa [show ev st2 (.tmp 15) = st2 15 from rfl, s15] at this)
  refine wpIn_block ?_
  refine range_lawN (m := mm) e15 enters82 (sets_seq (m + n) m (by omega) (by omega) mm ad1 ad2 w2 hb1 hb2 hcl1 hcl2 c.fz)
    (fun pre W' => J (corsK a m n pre.length) W') (fun cd pre W' => cd = .ret ∧ ∃ p x, p ++ [x] <+: corsL a m n ∧ Jx (p ++ [x]) W')
    (fun s A B h hb => hJ _ _ _ h (below_of hb hle2)) hj2
    (fun cd s A o o' k hk ho l1 l2 h => ⟨h.1, by
      obtain ⟨p, x, h1, h2⟩ := h.2
      exact ⟨p, x, h1, hX _ _ _ _ _ (by omega) ho l1 l2 h2⟩⟩) ?round ?done ?stop
  case done =>
    intro D W' hφ hB' hD hK
    rw [selL_sets, List.length_map] at hφ
    rw [corsK_full a m n (Nat.le_refl _)] at hφ
    show Q .normal _ W'
    rw [← hQ]
    have hd : a2.defers = [] := S2.defers
    refine ⟨by simp, .inl ⟨_, _, rfl, run_takeDeferred hK, ?_⟩⟩
    rw [hd]
    exact ⟨_, results_none rfl _ _ _, ⟨_, rfl⟩, .inl (hJ _ _ _ hφ (below_turn (by omega)))⟩
  case stop =>
    intro D cd pre x W' hpx hψ hD hK
    obtain ⟨rfl, p, y, h1, h2⟩ := hψ
    refine wpIn_ret ?_
    show Q .ret _ W'
    rw [← hQ]
    have hd : a2.defers = [] := S2.defers
    refine ⟨by simp, .inl ⟨_, _, rfl, run_takeDeferred hK, ?_⟩⟩
    rw [hd]
    exact ⟨_, results_none rfl _ _ _, ⟨_, rfl⟩, .inr ⟨p, y, h1, hX _ _ _ _ _ (by omega) hK trivial trivial h2⟩⟩
  case round =>
    intro l' pre x v W' r hpx hBW hφ hrep hl hle
    obtain ⟨y, hy1, rfl, hcard⟩ := sets_at hpx
    obtain ⟨s, hs⟩ : ∃ s, s = bitsL (m + n) y := ⟨_, rfl⟩
    rw [← hs] at hcard hrep hpx
    rw [← hs]
    have hslen : s.length = m + n := by rw [hs, bitsL_len]
    obtain ⟨r0, hcon, ⟨cs, hcs, hcl10, hca⟩, hcor⟩ := f80_con T hslen hcard
    have hplen : (pre ++ [actsA s]).length = pre.length + 1 := by simp
    have hsuc := corsK_succ (a := a) hy1
    rw [← hs] at hsuc
    have Hv := view_start H2 hBW
    have Sv := viewSt_ok H2 hBW S2
    have Vx : VR W' (viewC c2 W') (actsA s) v := bools_any (hrep { c2 with fz := fun _ => True } (fun _ _ => trivial) (fun _ _ _ => trivial)) _ _
    have Sp := Sv.put (d := some 16) (fun t ht => by cases ht; decide) Vx
    have hact : ({ tmps := a2.tmps.setIfInBounds 16 v, defers := [] } : Act) = a2.put (some 16) v := by
      have : a2.defers = [] := S2.defers
      simp [Act.put, this]
    rw [hact]
    have q1 : (updO (viewSt Hp.empty st2) (some 16) (actsA s)) 1 = .pp [LLI a] := by
      show viewV Hp.empty (st2 1) = _
      rw [s1]
      have : (AV.pp [LLI a]).isPure = true := by show AV.pureL [LLI a] = true; simp only [AV.pureL, Bool.and_true]; exact pure_L _
      simp only [viewV, this, if_true]
    have q16 : (updO (viewSt Hp.empty st2) (some 16) (actsA s)) 16 = actsA s := rfl
    have yv := (put_other' (a := a2) (v := v) (show 16 ≠ 2 by decide)).trans y2'
    generalize updO (viewSt Hp.empty st2) (some 16) (actsA s) = sv at *
    generalize a2.put (some 16) v = av at *
    have hlW : l' < W'.heap.size := (Array.getElem?_eq_some_iff.1 hl).1
    have hbv : (viewC c2 W').base = W'.heap.size := rfl
    have hfv : ∀ b, (viewC c2 W').fz b → c.fz b ∨ W.heap.size ≤ b := fun b hb => by
      rcases hb with hb | ⟨id, r, hloc⟩
      · exact hfz2 b hb
      · obtain ⟨_, _, _, h1, _, _⟩ := H2.at hloc
        rw [hbase2] at h1; exact .inr h1
    refine WP.in_ hext0 hlate0 2 rfl rfl (R := fun x st h' => x = .normal ∧ st 1 = .pp [LLI a] ∧ st 3 = .ptr 0 0 ∧ h'.nx = 1 ∧ h'.bl 0 = some (.cells false false ((pad8 s).flatMap (e1 AV.bool)))) ?_ Hv Sp ?_
    · have h8 : ∀ g : Hp, storeC g 0 0 8 (some (.cells false false [.bool false, .bool false, .bool false, .bool false, .bool false, .bool false, .bool false, .bool false])) (actsA s).cells = some (.skp, g.put 0 (some (.cells false false ((pad8 s).flatMap (e1 AV.bool))))) := fun g =>
        store8 (h := g) 0 (List.replicate 8 false) (pad8 s) rfl (pad8_len s)
      simp (disch := first | (simp only [go_sem, gb0, eq_self]; done) | omega | (simp only [gl1, gl2]; omega)) only [go_sem, ↓reduceIte, Nat.reduceEqDiff, Nat.reduceAdd, Nat.reduceMul, Nat.reduceSub, Int.reduceToNat, Nat.reduceBEq, q1, q16, h8]
    rintro x st3 h3 ⟨rfl, s1, s3, hnx, b0⟩ W3 c3 a3 E3 H3 S3 F3
    have hb3 := E3.below
    rw [hbv] at hb3
    refine ⟨fun k _ hk2 => hb3.block k hk2, fun r' => ?_⟩
    have hl3 : W3.heap[l']? = some (.loop r) := (hb3.block l' hlW).trans hl
    have hl3' := (Array.getElem?_eq_some_iff.1 hl3).1
    have H4 := H3.turn (o' := .loop r') hl3 trivial trivial
    have S4 := S3.turn (o' := .loop r') hl3 trivial trivial
    have hlo : (W3.putObj l' (.loop r')).heap[l']? = some (.loop r') := World.putObj_heap_same hl3'
    have hb34 : ∀ k, k < W'.heap.size → k ≠ l' → (W3.putObj l' (.loop r')).heap[k]? = W'.heap[k]? := fun k hk hne => (World.putObj_heap_other hne).trans (hb3.block k hk)
    have hW4 : Below W.heap.size W' (W3.putObj l' (.loop r')) := (below_of hb3 (by have := hBW.size; omega)).trans (below_turn (by omega))
    have hsz4 : W'.heap.size ≤ (W3.putObj l' (.loop r')).heap.size := by simp only [World.putObj, Array.size_setIfInBounds]; exact hb3.size
    have hbase3 : c3.base = W'.heap.size := E3.base
    have hfz3 : ∀ b, c3.fz b → c.fz b ∨ W.heap.size ≤ b := fun b hb => by
      rcases E3.fzb b hb with h | h
      · exact hfv b h
      · rw [hbv] at h; exact .inr (by have := hBW.size; omega)
    have yv3 := Eq.trans F3 yv
    have hBW3 : Below W'.heap.size W' W3 := hb3
    clear E3 H3 S3 F3 Hv Sp Sv Vx yv hb3
    obtain ⟨W4, hW4e⟩ : ∃ W4, W4 = W3.putObj l' (.loop r') := ⟨_, rfl⟩
    rw [← hW4e] at H4 S4 hlo hb34 hW4 hsz4 ⊢
    refine wpIn_block ?_
    have k80 := fun h K => ConW_pure (h := h) (K := K) hcon rfl
    have hl10 := ld10
    simp only [und103] at hl10
    have hl10c := hl10 cs hcl10
    have hst10 : ∀ g : Hp, storeC g 1 0 10 (some (.cells false false (zc 0))) cs = some (.skp, g.put 1 (some (.cells false false cs))) := fun g => store10 1 _ _ rfl hcl10 hca
    have hal4 : ∀ g : Hp, allocB g (izero Try.prog 103) = some (.ptr g.nx 0, g.alloc (.cells false false (zc 0))) := fun g => by
      rw [show izero Try.prog 103 = some (.agg (zc 0)) by kernel_rfl]; exact allocB_agg _ rfl
    simp only [izero103] at hal4
    have hld8 : loadC (some (.array 8 4)) (some 8) (some ((pad8 s).flatMap (e1 AV.bool), 0)) = some (actsA s) := by
      have hld := loadC_agg (.array 8 4) 8 rfl ((pad8 s).flatMap (e1 .bool)) 0 (by rw [flat_len, pad8_len]; exact Nat.le_refl _)
      have htk : (((pad8 s).flatMap (e1 AV.bool)).drop 0).take 8 = (pad8 s).flatMap (e1 AV.bool) := by
        rw [List.drop_zero, List.take_of_length_le (by rw [flat_len, pad8_len]; exact Nat.le_refl _)]
      rw [htk] at hld; exact hld
    have zsa : ∀ g : Hp, sealA g (actsA s) = some (actsA s, g) := fun g => sealA_agg _ (pureL_all fun x hx => by
      obtain ⟨b, _, hb⟩ := List.mem_flatMap.1 hx
      simp only [e1, List.mem_singleton] at hb
      rw [hb]; rfl)
    subst hcs
    refine wpIn_seq (WP.in_ hext0 hlate0 2 rfl rfl (R := fun x st h' => x = .normal ∧ st 5 = .bool (okCor a m n s) ∧ st 4 = .ptr 1 0 ∧ h'.bl 1 = some (.cells false false cs)) ?_ H4 S4 ?_)
    · simp (disch := first | (simp only [go_sem, gb0, eq_self]; done) | omega | (simp only [gl1, gl2]; omega)) only [go_sem, ↓reduceIte, Nat.reduceEqDiff, Nat.reduceAdd, Nat.reduceMul, Nat.reduceSub, Int.reduceToNat, Nat.reduceBEq, s1, s3, hnx, b0, hld8, zsa, k80, hal4, hst10]
    rintro x st5 h5 ⟨rfl, s5, s4, b1⟩ W5 c5 a5 E5 H5 S5 F5
    have hb5 := E5.below
    rw [hbase3] at hb5
    have yv5 := Eq.trans F5 yv3
    have hbase5 : c5.base = W'.heap.size := E5.base.trans hbase3
    have hfz5 : ∀ b, c5.fz b → c.fz b ∨ W.heap.size ≤ b := fun b hb => by
      rcases E5.fzb b hb with h | h
      · exact hfz3 b h
      · rw [hbase3] at h; exact .inr (by have := hBW.size; omega)
    clear E5 F5 H4 S4 yv3
    have hsz' := hBW.size
    cases hok : okCor a m n s with
    | false =>
      rw [hok] at s5 hsuc
      refine WP.in_ hext0 hlate0 2 rfl rfl (R := fun x st h' => x = .normal) ?_ H5 S5 ?_
      · simp (disch := first | (simp only [go_sem, gb0, eq_self]; done) | omega | (simp only [gl1, gl2]; omega)) only [go_sem, ↓reduceIte, Nat.reduceEqDiff, Nat.reduceAdd, Nat.reduceMul, Nat.reduceSub, Int.reduceToNat, Nat.reduceBEq, s5]
      rintro x st6 h6 rfl W6 c6 a6 E6 H6 S6 F6
      have hb6 := E6.below
      rw [hbase5] at hb6
      have hf : Below W'.heap.size W4 W6 := hb5.trans hb6
      refine ⟨hBW3, by rw [← hW4e]; exact hf, ?_⟩
      show J (corsK a m n (pre ++ [actsA s]).length) W6
      rw [hplen, hsuc]
      simp only [Bool.false_eq_true, if_false, List.append_nil]
      exact hJ _ _ _ hφ (hW4.trans (below_of hf (by omega)))
    | true =>
      rw [hok] at s5 hsuc
      have hcr := hcor hok
      rw [if_pos rfl] at hsuc
      rw [← hcr] at hsuc
      have hpre : corsK a m n pre.length ++ [.agg cs] <+: corsL a m n := by rw [← hsuc]; exact corsK_pre _ _ _ _
      refine wpIn_seq (wpIn_region ?_)
      show wpOpsIn (rF (some l')) mm Try.prog _ _ ([0, 1] ++ [2, 3, 4, 5, 6]) a5 W5
      refine ops_pre hext0 (n := 30) 2 rfl rfl [0, 1] [2, 3, 4, 5, 6] (R := fun st h' => st 24 = .bool true ∧ st 4 = .ptr 1 0 ∧ h' = h5) ?_ H5 S5 ?_
      · simp only [List.filterMap_cons, List.filterMap_nil, List.getElem?_toArray, List.getElem?_cons_zero, List.getElem?_cons_succ]
        simp (disch := first | (simp only [go_sem, gb0, eq_self]; done) | omega | (simp only [gl1, gl2]; omega)) only [go_sem, ↓reduceIte, Nat.reduceEqDiff, Nat.reduceAdd, Nat.reduceMul, Nat.reduceSub, Int.reduceToNat, Nat.reduceBEq, s5, s4]
      rintro st9 h9 ⟨s24, s4, rfl⟩ w9 c9 a9 E9 H9 S9 F9
      have hb9 := E9.below
      rw [hbase5] at hb9
      have hf9 : Below W'.heap.size W4 w9 := hb5.trans hb9
      have hfz9 : ∀ b, c9.fz b → c.fz b ∨ W.heap.size ≤ b := fun b hb => by
        rcases E9.fzb b hb with h | h
        · exact hfz5 b h
        · rw [hbase5] at h; exact .inr (by omega)
      have y2 : a9.tmps[2]? = some (.pointer (some ⟨B, 0, none⟩)) := Eq.trans F9 yv5
      have y24 := tmp_bool S9 (t := 24) (by decide) s24
      have hBW9 : Below W.heap.size W' w9 := hW4.trans (below_of hf9 (by omega))
      have hbl9 : Below W.heap.size W w9 := hW2.trans ((below_of hBW hle2).trans hBW9)
      have hbx : w9.heap[B]? = some (.cells #[.func (.yield l) #[] #[]] 112) := by
        rw [hf9.block B (by omega), hb34 B (by omega) (by omega), hBW.block B (by omega)]; exact hbox2
      have hcell : w9.cell? ⟨B, 0, none⟩ = some (.func (.yield l) #[] #[]) := by
        simp [World.cell?, hbx]
      have hb9' : c9.base = W'.heap.size := E9.base.trans hbase5
      clear H5 S5 E9 hb9 F9 yv5
      refine op_value (o := ⟨some 25, .load 112 (.tmp 2), 112, _, _, some (1, true)⟩) rfl (wanted_some rfl (yielded_at rfl y24)) (fun c h => by cases h) (run_load1 und112 rfl (eval_tmp y2) hcell) ?_
      have S10 := S9.put (d := some 25) (fun t ht => by cases ht; decide) (VR.undef (w := w9) (c := c9) (.func (.yield l) #[] #[]))
      have y25 := put_at (v := .func (.yield l) #[] #[]) S9.size (show 25 < 30 by decide)
      have y24' := (put_other' (v := .func (.yield l) #[] #[]) (show 25 ≠ 24 by decide)).trans y24
      generalize a9.put (some 25) (.func (.yield l) #[] #[]) = a10 at *
      have hload : StepW Try.prog cfg #[] none (.load 103 (.tmp 4)) (updO st9 (some 25) .undef) h9 (fun v g => v = .agg cs ∧ g = h9) := by
        simp (disch := first | (simp only [go_sem, gb0, eq_self]; done) | omega | (simp only [gl1, gl2]; omega)) only [go_sem, ↓reduceIte, Nat.reduceEqDiff, Nat.reduceAdd, Nat.reduceMul, Nat.reduceSub, Int.reduceToNat, Nat.reduceBEq, s4, b1, hl10c]
      obtain ⟨kk, v', g, e, rfl, hg⟩ := hload
      rw [hg] at e
      have hu : opRead Try.prog (.load 103 (.tmp 4)) (ev (updO st9 (some 25) .undef)) h9 none = some (.agg cs) := by
        unfold stepK at e
        have hp : opPure Try.prog (.load 103 (.tmp 4)) (ev (updO st9 (some 25) .undef)) = none := rfl
        simp only [hp] at e
        cases hq : opRead Try.prog (.load 103 (.tmp 4)) (ev (updO st9 (some 25) .undef)) h9 none with
        | some u => rw [hq] at e; simp only [Option.some.injEq, Prod.mk.injEq, and_true] at e; rw [e]
        | none => rw [hq] at e; simp [opNew, opWrite] at e
      obtain ⟨v8, hr8, V8⟩ := opRead_ok (P := Try.prog) (o := ⟨some 26, .load 103 (.tmp 4), 103, "corner.go:136", #[⟨1, .guard⟩], some (1, true)⟩) H9 S10.ev hu
      refine op_value (o := ⟨some 26, .load 103 (.tmp 4), 103, _, _, some (1, true)⟩) rfl (wanted_some rfl (yielded_at rfl y24')) (fun c h => by cases h) hr8 ?_
      have S11 := S10.put (d := some 26) (fun t ht => by cases ht; decide) V8
      have z26 := put_at (v := v8) S10.size (show 26 < 30 by decide)
      have z25 := (put_other' (v := v8) (show 26 ≠ 25 by decide)).trans y25
      have z24 := (put_other' (v := v8) (show 26 ≠ 24 by decide)).trans y24'
      dsimp only at *
      generalize a10.put (some 26) v8 = a11 at *
      have hpu : (AV.agg cs).isPure = true := by
        have : (AV.tup [.agg cs, .bool (okCor a m n s)]).isPure = true := by
          obtain ⟨k, e⟩ := hcon
          exact callP_pure (fun _ _ _ h => by cases h) rfl e
        simpa [AV.isPure, AV.pureL] using this
      have hrep' : Rep c.fz W.heap.size w9 (.agg cs) v8 := fun c' hf hn => V8.pure_mono ⟨fun b hb => by
        rcases hfz9 b hb with h | h
        · exact hf b h
        · exact hn b h (H9.fzlt b hb), fun b hb => rfl⟩ hpu
      refine op_yield (o := ⟨some 27, .call ⟨.value (.tmp 25), #[.tmp 26], #[103]⟩, 4, _, _, some (1, true)⟩) rfl (wanted_some rfl (yielded_at rfl z24)) rfl (eval_tmp z25) (eval_tmp z26)
        (hY (corsK a m n pre.length) (.agg cs) v8 w9 hpre hbl9 (hJ _ _ _ hφ hBW9) hrep') ?_
      rintro e w10 hres
      obtain ⟨b, he, hd⟩ : ∃ b, e = .returned (.bool b) ∧ ((b = true ∧ J (corsK a m n pre.length ++ [.agg cs]) w10 ∧ Below w9.heap.size w9 w10) ∨ (b = false ∧ Jx (corsK a m n pre.length ++ [.agg cs]) w10 ∧ w9.heap.size ≤ w10.heap.size ∧ ∀ k, W.heap.size ≤ k → k < w9.heap.size → w10.heap[k]? = w9.heap[k]?)) := by
        rcases hres with ⟨rfl, h1, h2⟩ | ⟨rfl, h1, h2, h3⟩
        · exact ⟨true, rfl, .inl ⟨rfl, h1, h2⟩⟩
        · exact ⟨false, rfl, .inr ⟨rfl, h1, h2, h3⟩⟩
      refine ⟨b, he, ?_⟩
      have u27 := put_at (v := .bool b) S11.size (show 27 < 30 by decide)
      have u24 := (put_other' (v := .bool b) (show 27 ≠ 24 by decide)).trans z24
      refine op_value (o := ⟨some 28, .unOp .not 4 (.tmp 27), 4, _, _, some (1, true)⟩) rfl (wanted_some rfl (yielded_at rfl u24)) (fun c h => by cases h) (not_run' (eval_tmp u27)) ?_
      have v28 := put_at (v := .bool (!b)) (put_size (t := 27) (v := .bool b) S11.size) (show 28 < 30 by decide)
      have v24 := (put_other' (v := .bool (!b)) (show 28 ≠ 24 by decide)).trans u24
      refine op_value (o := ⟨some 29, .pick (.tmp 24) (.tmp 28) (.const (.bool false)), 4, _, _, none⟩) rfl (wanted_none rfl) (fun c h => by cases h) (pick_run (eval_tmp v24)) ?_
      rw [if_pos rfl, eval_tmp v28]
      have x29 := put_at (v := .bool (!b)) (put_size (t := 28) (v := .bool (!b)) (put_size (t := 27) (v := .bool b) S11.size)) (show 29 < 30 by decide)
      show (Code.cond (.tmp 29) .ret .skip).wpIn (rF (some l')) mm Try.prog _ _ _
      have hszw : W'.heap.size ≤ w9.heap.size := Nat.le_trans hsz4 hf9.size
      rcases hd with ⟨rfl, hj10, hB10⟩ | ⟨rfl, hjx, hs10, hk10⟩
      · refine wpIn_cond_false (eval_tmp x29) (wpIn_skip ⟨hBW3, by rw [← hW4e]; exact hf9.trans (below_of hB10 hszw), ?_⟩)
        show J (corsK a m n (pre ++ [actsA s]).length) w10
        rw [hplen, hsuc]; exact hj10
      · refine wpIn_cond_true (eval_tmp x29) (wpIn_ret ⟨?_, Nat.le_trans hszw hs10, fun k hk1 hk2 hne => ?_, rfl, _, _, hpre, hjx⟩)
        · rw [hk10 l' (by omega) (by omega), hf9.block l' hlW]; exact hlo
        · rw [hk10 k (by omega) (by omega), hf9.block k hk2]; exact hb34 k hk2 hne
end Go.Proofs.Ytcdpkgmkckfonaa
