/-
  sum: the weights of all rows that agree with a map.
-/
import Derived.Test.YtpkakapbepkfdaaL1J
set_option linter.unusedVariables false
set_option linter.unusedSimpArgs false
set_option maxRecDepth 10000
namespace Go.Proofs.Ytpkakapbepkfdaa
open Go Go.Am

variable {h h' : Hp} {K : AV → Hp → Prop}

theorem vis_len (φ : Int → Option Int) : ∀ (m : Nat) (pre : List Int), (vis φ m pre).length ≤ 2 ^ m
  | 0, pre => by simp [vis]
  | m + 1, pre => by
    have h1 := vis_len φ m (pre ++ [0])
    have h2 := vis_len φ m (pre ++ [1])
    simp only [vis, List.length_append, Nat.pow_succ]
    split <;> split <;> simp <;> omega
theorem vis_mem (φ : Int → Option Int) : ∀ (m : Nat) (pre w : List Int), w ∈ vis φ m pre → (∀ j, j < pre.length → nth pre j = 0 ∨ nth pre j = 1) → w.length = pre.length + m ∧ ∀ j, j < w.length → nth w j = 0 ∨ nth w j = 1
  | 0, pre, w, hw, hp => by
    simp only [vis, List.mem_singleton] at hw
    subst hw; exact ⟨rfl, hp⟩
  | m + 1, pre, w, hw, hp => by
    simp only [vis, List.mem_append] at hw
    have snoc : ∀ x : Int, x = 0 ∨ x = 1 → ∀ j, j < (pre ++ [x]).length → nth (pre ++ [x]) j = 0 ∨ nth (pre ++ [x]) j = 1 := by
      intro x hx j hj
      simp only [List.length_append, List.length_singleton] at hj
      by_cases he : j < pre.length
      · rw [nth_append_left _ _ _ he]; exact hp j he
      · rw [show j = pre.length by omega, nth, List.getElem?_append_right (Nat.le_refl _)]; simpa using hx
    rcases hw with hw | hw
    · split at hw
      · have := vis_mem φ m _ w hw (snoc 0 (.inl rfl))
        simp only [List.length_append, List.length_singleton] at this
        exact ⟨by omega, this.2⟩
      · cases hw
    · split at hw
      · have := vis_mem φ m _ w hw (snoc 1 (.inr rfl))
        simp only [List.length_append, List.length_singleton] at this
        exact ⟨by omega, this.2⟩
      · cases hw

theorem f64_shr {p t : List (List Int)} {n g : Nat} {caps : List AV} {mapv : AV} {φ : Int → Option Int} {G : List (List Int) → List Int → Hp → Prop} {H : Hp}
    (E : Env p t n H.nx (H.nx + 2) (H.nx + 3) (H.nx + 1) (H.nx + 4) g caps mapv φ (vis φ n []) G) (hn : n ≤ 10)
    (hal : ∀ g : Hp, allocB g (some mapv) = some (.ptr g.nx 0, g.alloc (.cells false false [mapv])))
    (hG : ∀ h5 : Hp, h5.nx = H.nx + 5 → (∀ id, id < H.nx → h5.bl id = H.bl id) → h5.bl H.nx = some (.cells false false [LLI p, LLI t, I n]) → h5.bl (H.nx + 1) = some (.cells false false [mapv]) → h5.bl (H.nx + 2) = some (.cells false false [.fn g caps]) →
      h5.bl (H.nx + 3) = some (.cells false false ((List.replicate 10 (0 : Int)).flatMap (e1 I))) → h5.bl (H.nx + 4) = some (.cells false false [.fn 77 [.ptr H.nx 0, .ptr (H.nx + 2) 0, .ptr (H.nx + 3) 0, .ptr (H.nx + 1) 0, .ptr (H.nx + 4) 0]]) → G [] (List.replicate 10 0) h5) :
    ∃ h', Shr Try.prog cfg 64 [.agg [LLI p, LLI t, I n], mapv, .fn g caps] H (.tup []) h' ∧ ∃ xs', G (vis φ n []) xs' h' := by
  suffices hh : ∃ v h', Shr Try.prog cfg 64 [.agg [LLI p, LLI t, I n], mapv, .fn g caps] H v h' ∧ (v = .tup [] ∧ ∃ xs', G (vis φ n []) xs' h') by
    obtain ⟨v, h', hs, rfl, r⟩ := hh
    exact ⟨h', hs, r⟩
  have hal2 : ∀ g' : Hp, allocB g' (some (.fn g caps)) = some (.ptr g'.nx 0, g'.alloc (.cells false false [.fn g caps])) := fun _ => rfl
  have hal3 := fun h => allocB_flat (h := h) (List.replicate 10 (0 : Int))
  let h5 : Hp := (((((H.alloc (.cells false false [LLI p, LLI t, I n])).alloc (.cells false false [mapv])).alloc (.cells false false [.fn g caps])).alloc (.cells false false ((List.replicate 10 (0 : Int)).flatMap (e1 I)))).alloc (.cells false false [.nilfn])).put (H.nx + 4) (some (.cells false false [.fn 77 [.ptr H.nx 0, .ptr (H.nx + 2) 0, .ptr (H.nx + 3) 0, .ptr (H.nx + 1) 0, .ptr (H.nx + 4) 0]]))
  have hg : G [] (List.replicate 10 0) h5 := by
    refine hG h5 rfl (fun id hid => ?_) ?_ ?_ ?_ ?_ ?_
    · simp [h5, Hp.put, Hp.alloc, show id ≠ H.nx by omega, show id ≠ H.nx + 1 by omega, show id ≠ H.nx + 2 by omega, show id ≠ H.nx + 3 by omega, show id ≠ H.nx + 4 by omega]
    · simp [h5, Hp.put, Hp.alloc, show ¬ H.nx = H.nx + 1 + 1 + 1 + 1 by omega, show ¬ H.nx = H.nx + 1 + 1 + 1 by omega, show ¬ H.nx = H.nx + 1 + 1 by omega]
    · simp [h5, Hp.put, Hp.alloc]
    · simp [h5, Hp.put, Hp.alloc]
    · simp [h5, Hp.put, Hp.alloc]
    · simp [h5, Hp.put, Hp.alloc]
  obtain ⟨h', hs, xs', _, hg'⟩ := f77_shr E hn n 0 [] (List.replicate 10 0) [] h5 rfl (by omega) ⟨by simp, fun j h1 h2 => by rw [nth, List.getElem?_replicate]; split <;> rfl⟩ (by simp) hg
  have hc := fun K => CallW_shr (K := K) 77 _ shr77 hs
  refine Shr_intro Try.func64 rfl ok64 (Nat.le_of_ble_eq_true rfl) ?_
  simp only [Try.f64, Option.getD_some, initSt3]
  simp (disch := first | (simp only [go_sem, Bool.and_self, eq_self]; done) | omega | (simp only [List.length_cons, List.length_nil]; omega)) only [go_sem, ↓reduceIte, Nat.reduceEqDiff, Nat.reduceAdd, Nat.reduceMul, Nat.reduceSub, Int.reduceToNat, Nat.reduceBEq, List.size_toArray, List.length_cons, List.length_nil, Bool.false_and, Bool.true_and, Bool.or_false, Bool.false_or, Bool.and_false, Bool.and_true, hal, hal2, z10, hal3]
  refine Eq.mpr (hc _) ?_
  simp (disch := first | (simp only [go_sem, Bool.and_self, eq_self]; done) | omega | (simp only [List.length_cons, List.length_nil]; omega)) only [go_sem, ↓reduceIte, Nat.reduceEqDiff, Nat.reduceAdd, Nat.reduceMul, Nat.reduceSub, Int.reduceToNat, Nat.reduceBEq, List.size_toArray, List.length_cons, List.length_nil, Bool.false_and, Bool.true_and, Bool.or_false, Bool.false_or, Bool.and_false, Bool.and_true]
  exact ⟨xs', hg'⟩

/-- The weights of a list of rows, together. -/
def sumW (p t : List (List Int)) (d : List (List Int)) : Int := (d.map fun w => weightB p t w p.length).sum
theorem sumW_snoc (p t : List (List Int)) (d : List (List Int)) (w : List Int) : sumW p t (d ++ [w]) = sumW p t d + weightB p t w p.length := by simp [sumW]
theorem sumW_bounds {p t : List (List Int)} (N : Net p t) : ∀ (d : List (List Int)), 0 ≤ sumW p t d ∧ sumW p t d ≤ d.length * 1099511627776
  | [] => by simp [sumW]
  | w :: d => by
    have h1 := sumW_bounds N d
    have h2 := weight_bounds N w (Nat.le_refl _)
    have h3 := pow16_le (Nat.le_refl p.length) N.n1.2
    simp only [sumW, List.map_cons, List.sum_cons, List.length_cons] at h1 ⊢
    omega

/-- The memory of 'sum' after some visits. -/
structure SumG (p t : List (List Int)) (n : Nat) (mapv : AV) (d : List (List Int)) (xs : List Int) (h : Hp) : Prop where
  nx : 7 ≤ h.nx
  len : xs.length = 10
  b0 : h.bl 0 = some (.cells false false [LLI p, LLI t, I n])
  b1 : h.bl 1 = some (.cells false false [I (sumW p t d)])
  b2 : h.bl 2 = some (.cells false false [LLI p, LLI t, I n])
  b3 : h.bl 3 = some (.cells false false [mapv])
  b4 : h.bl 4 = some (.cells false false [.fn 73 [.ptr 1 0, .ptr 0 0]])
  b5 : h.bl 5 = some (.cells false false (xs.flatMap (e1 I)))
  b6 : h.bl 6 = some (.cells false false [.fn 77 [.ptr 2 0, .ptr 4 0, .ptr 5 0, .ptr 3 0, .ptr 6 0]])

theorem vis_bits {φ : Int → Option Int} {n : Nat} {w : List Int} (hw : w ∈ vis φ n []) : w.length = n ∧ ∀ j, j < n → nth w j = 0 ∨ nth w j = 1 := by
  obtain ⟨h1, h2⟩ := vis_mem φ n [] w hw (fun j hj => by simp at hj)
  simp only [List.length_nil, Nat.zero_add] at h1
  exact ⟨h1, fun j hj => h2 j (by omega)⟩
theorem sumEnv {p t : List (List Int)} (N : Net p t) (mapv : AV) (φ : Int → Option Int)
    (hlk : ∀ (b : Option Blk) (k : Int), lookB (some (.map 3 3)) (some (.int .i64)) (some (I 0)) mapv b true (I k) true = some (.tup [I ((φ k).getD 0), .bool (φ k).isSome])) :
    Env p t p.length 2 4 5 3 6 73 [.ptr 1 0, .ptr 0 0] mapv φ (vis φ p.length []) (SumG p t p.length mapv) := by
  refine ⟨fun g => g.len, fun g => g.b2, fun g => g.b4, fun g => g.b5, fun g => g.b3, fun g => g.b6, fun g k => hlk _ k, fun {d xs h} g i v hi => ?_, rfl, fun {d xs h} g w hw hx hT => ?_⟩
  · exact ⟨g.nx, by simpa using g.len, by simpa [Hp.put] using g.b0, by simpa [Hp.put] using g.b1, by simpa [Hp.put] using g.b2, by simpa [Hp.put] using g.b3, by simpa [Hp.put] using g.b4, by simp [Hp.put], by simpa [Hp.put] using g.b6⟩
  · suffices hh : ∃ v h', Shr Try.prog cfg 73 [.agg (xs.flatMap (e1 I)), .ptr 1 0, .ptr 0 0] h v h' ∧ (v = .tup [] ∧ SumG p t p.length mapv (d ++ [w]) xs h') by
      obtain ⟨v, h', hs, rfl, r⟩ := hh
      exact ⟨h', hs, r⟩
    have hmem : w ∈ vis φ p.length [] := by
      obtain ⟨r, hr⟩ := hT
      rw [← hr]; simp
    obtain ⟨hwl, hwb⟩ := vis_bits hmem
    have hdl : d.length < 1024 := by
      obtain ⟨r, hr⟩ := hT
      have h1 := congrArg List.length hr
      have h2 := vis_len φ p.length []
      have h3 : 2 ^ p.length ≤ 2 ^ 10 := Nat.pow_le_pow_right (by decide) N.n1.2
      simp only [List.length_append, List.length_singleton] at h1
      omega
    have hn1 := N.n1
    have hxl := g.len
    have hvals : Vals xs p.length := ⟨hxl, fun i hi => by rw [hx, ten_nth (by omega)]; exact hwb i hi⟩
    have kw := fun h h' K => k51 (h := h) (h' := h') (K := K) p t N xs hvals
    have hwx : weightB p t xs p.length = weightB p t w p.length := weight_congr N fun k hk => by rw [hx, ten_nth (by omega)]
    rw [hwx] at kw
    obtain ⟨s1, s2⟩ := sumW_bounds N d
    obtain ⟨w1, w2⟩ := weight_bounds N w (Nat.le_refl p.length)
    have w3 := pow16_le (Nat.le_refl p.length) N.n1.2
    have hal := fun h => allocB_flat (h := h) xs
    have hld := loadC_flat xs hxl
    have hb0 := g.b0
    have hb1 := g.b1
    have hnx := g.nx
    have n0 : ¬ 0 = h.nx := by omega
    have n1 : ¬ 1 = h.nx := by omega
    refine Shr_intro Try.func73 rfl ok73 (Nat.le_of_ble_eq_true rfl) ?_
    simp only [Try.f73, Option.getD_some, initSt3]
    simp (disch := first | (simp only [go_sem, Bool.and_self, eq_self]; done) | omega | (simp only [List.length_cons, List.length_nil]; omega)) only [go_sem, ↓reduceIte, Nat.reduceEqDiff, Nat.reduceAdd, Nat.reduceMul, Nat.reduceSub, Int.reduceToNat, Nat.reduceBEq, List.size_toArray, List.length_cons, List.length_nil, Bool.false_and, Bool.true_and, Bool.or_false, Bool.false_or, Bool.and_false, Bool.and_true, hal, hld, hb0, hb1, n0, n1, kw]
    have hbl : ∀ k, k < 7 → k ≠ 1 → (((h.alloc (.cells false false (xs.flatMap (e1 I)))).put 1 (some (.cells false false [AV.int IntKind.i64 (sumW p t d + weightB p t w p.length)]))).bl k = h.bl k) := by
      intro k h1 h2
      simp [Hp.put, Hp.alloc, h2, show ¬ k = h.nx by omega]
    refine ⟨by show 7 ≤ h.nx + 1; omega, hxl, (hbl 0 (by omega) (by omega)).trans g.b0, ?_, (hbl 2 (by omega) (by omega)).trans g.b2, (hbl 3 (by omega) (by omega)).trans g.b3, (hbl 4 (by omega) (by omega)).trans g.b4,
      (hbl 5 (by omega) (by omega)).trans g.b5, (hbl 6 (by omega) (by omega)).trans g.b6⟩
    rw [sumW_snoc]; rfl

/-- The values that a map gives. -/
def phi (es : List (Int × Int)) (k : Int) : Option Int := match es with
  | [] => none
  | (j, v) :: es => if k = j then some v else phi es k
theorem findK_phi (es : List (Int × Int)) (k : Int) : findK k (entF es) = (phi es k).map I := by
  induction es with
  | nil => rfl
  | cons p es ih =>
    obtain ⟨j, v⟩ := p
    simp only [entF, List.map_cons, findK, phi] at ih ⊢
    split
    · rfl
    · exact ih
abbrev mvE (es : List (Int × Int)) : AV := .mv ((entF es).map (·.1)) ((entF es).map (·.2))
theorem lk_phi (es : List (Int × Int)) (b : Option Blk) (k : Int) : lookB (some (.map 3 3)) (some (.int .i64)) (some (I 0)) (mvE es) b true (I k) true = some (.tup [I ((phi es k).getD 0), .bool (phi es k).isSome]) := by
  rw [lookB_mv _ _ _ _ _ _ _ _ _ rfl, findK_phi]
  cases phi es k <;> rfl

def sumB (p t : List (List Int)) (es : List (Int × Int)) : Int := sumW p t (vis (phi es) p.length [])
theorem sumB_bounds {p t : List (List Int)} (N : Net p t) (es : List (Int × Int)) : 0 ≤ sumB p t es ∧ sumB p t es ≤ 1125899906842624 := by
  have h1 := sumW_bounds N (vis (phi es) p.length [])
  have h2 := vis_len (phi es) p.length []
  have h3 : 2 ^ p.length ≤ 2 ^ 10 := Nat.pow_le_pow_right (by decide) N.n1.2
  unfold sumB; omega
theorem f55_con (p t : List (List Int)) (N : Net p t) (es : List (Int × Int)) : Con Try.prog cfg 55 [.agg [LLI p, LLI t, I p.length], mvE es] (I (sumB p t es)) := by
  have hal : ∀ g : Hp, allocB g (some (mvE es)) = some (.ptr g.nx 0, g.alloc (.cells false false [mvE es])) := fun _ => rfl
  let H : Hp := (((Hp.empty.alloc (.cells false false [LLI p, LLI t, I p.length])).alloc (.cells false false [I 0])).put 1 (some (.cells false false [I 0])))
  obtain ⟨h', hs, xs', hg⟩ := f64_shr (H := H) (sumEnv N (mvE es) (phi es) (lk_phi es)) N.n1.2 hal (fun h5 g1 g2 g3 g4 g5 g6 g7 => by
    refine ⟨by rw [g1]; show 7 ≤ 2 + 5; omega, rfl, (g2 0 (by show 0 < 2; omega)).trans (by simp [H, Hp.put, Hp.alloc, Hp.empty]), (g2 1 (by show 1 < 2; omega)).trans (by simp [H, Hp.put, sumW]), g3, g4, g5, g6, g7⟩)
  have hc := fun K => CallW_shr (K := K) 64 _ shr64 hs
  have hb1 := hg.b1
  refine Con_intro Try.func55 rfl ok55 (Nat.le_of_ble_eq_true rfl) rfl ?_
  simp only [Try.f55, Option.getD_some, initSt2]
  simp (disch := first | (simp only [go_sem, Bool.and_self, eq_self]; done) | omega | (simp only [List.length_cons, List.length_nil]; omega)) only [go_sem, ↓reduceIte, Nat.reduceEqDiff, Nat.reduceAdd, Nat.reduceMul, Nat.reduceSub, Int.reduceToNat, Nat.reduceBEq, List.size_toArray, List.length_cons, List.length_nil, Bool.false_and, Bool.true_and, Bool.or_false, Bool.false_or, Bool.and_false, Bool.and_true]
  refine Eq.mpr (hc _) ?_
  simp (disch := first | (simp only [go_sem, Bool.and_self, eq_self]; done) | omega | (simp only [List.length_cons, List.length_nil]; omega)) only [go_sem, ↓reduceIte, Nat.reduceEqDiff, Nat.reduceAdd, Nat.reduceMul, Nat.reduceSub, Int.reduceToNat, Nat.reduceBEq, List.size_toArray, List.length_cons, List.length_nil, Bool.false_and, Bool.true_and, Bool.or_false, Bool.false_or, Bool.and_false, Bool.and_true, hb1]
  rfl
theorem k55 (p t : List (List Int)) (N : Net p t) (es : List (Int × Int)) : ConW Try.prog cfg 55 h (some ([.agg [LLI p, LLI t, I p.length], mvE es], h')) K = K (I (sumB p t es)) h := ConW_num (f55_con p t N es) rfl

end Go.Proofs.Ytpkakapbepkfdaa
