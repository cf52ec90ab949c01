/-
  Chance: a loop over a map.
-/
import Derived.Test.YtpkakapbepkfdaaL1K
set_option linter.unusedVariables false
set_option linter.unusedSimpArgs false
set_option maxRecDepth 10000
namespace Go.Proofs.Ytpkakapbepkfdaa
open Go Go.Am

variable {h h' : Hp} {K : AV → Hp → Prop}

theorem CallW_shrE {g : FuncId} {args : List AV} {Q : AV → Hp → Prop} (hs : cfg.shared g = true) (he : ∃ v h', Shr Try.prog cfg g args h v h' ∧ Q v h') (hk : ∀ v h', Q v h' → K v h') : CallW Try.prog cfg g args h K := by
  obtain ⟨v, h', hsh, q⟩ := he
  rw [CallW_shr g args hs hsh]
  exact hk v h' q

theorem phi_append (es fs : List (Int × Int)) (k : Int) : phi (es ++ fs) k = (phi es k).or (phi fs k) := by
  induction es with
  | nil => simp [phi]
  | cons q es ih =>
    obtain ⟨j, v⟩ := q
    simp only [List.cons_append, phi]
    split
    · rfl
    · exact ih
/-- A fact that goes against the given ones. -/
def clashB (g f : List (Int × Int)) : Bool := f.any fun q => match phi g q.1 with | some y => !decide (y = q.2) | none => false
def chanceR (p t : List (List Int)) (f g : List (Int × Int)) : AV :=
  if netB p t && (factsB p.length f && factsB p.length g) then
    if sumB p t g = 0 then .tup [.agg [I 0, I 0], I 6]
    else if clashB g f then .tup [.agg [I 0, I 1], I 0]
    else .tup [redu (sumB p t (g ++ f)) (sumB p t g), I 0]
  else .tup [.agg [I 0, I 0], I 2]

theorem facts_keys {n : Int} {fs : List (Int × Int)} (h : factsB n fs = true) {i j : Nat} (hi : i < fs.length) (hj : j < fs.length) (he : (nth fs i).1 = (nth fs j).1) : i = j := by
  have key : ∀ i j, i < fs.length → j < i → (nth fs i).1 ≠ (nth fs j).1 := by
    intro i j hi hji he
    have := range_all h hi
    simp only [factB, Bool.and_eq_true] at this
    have h2 := range_all this.2 hji
    simp [he] at h2
  rcases Nat.lt_trichotomy i j with h1 | h1 | h1
  · exact absurd he.symm (key j i hj h1)
  · exact h1
  · exact absurd he (key i j hi h1)
theorem facts_phi {n : Int} {fs : List (Int × Int)} (h : factsB n fs = true) {k v : Int} (hm : (k, v) ∈ fs) : phi fs k = some v := by
  obtain ⟨i, hi, he⟩ := List.getElem_of_mem hm
  have key : ∀ (l : List (Int × Int)), (∀ q ∈ l, q.1 = k → q.2 = v) → (∃ q ∈ l, q.1 = k) → phi l k = some v := by
    intro l
    induction l with
    | nil => rintro _ ⟨q, hq, _⟩; cases hq
    | cons q l ih =>
      intro h1 h2
      obtain ⟨j, u⟩ := q
      simp only [phi]
      split
      · rename_i hkj
        have := h1 (j, u) List.mem_cons_self hkj.symm
        simp at this; rw [this]
      · rename_i hkj
        refine ih (fun q hq => h1 q (List.mem_cons_of_mem _ hq)) ?_
        obtain ⟨q, hq, hk⟩ := h2
        rcases List.mem_cons.1 hq with rfl | hq
        · exact absurd hk.symm hkj
        · exact ⟨q, hq, hk⟩
  refine key fs (fun q hq hk => ?_) ⟨(k, v), hm, rfl⟩
  obtain ⟨j, hj, he2⟩ := List.getElem_of_mem hq
  have : j = i := facts_keys h hj hi (by rw [nth_getElem hj, nth_getElem hi, he2, he]; exact hk)
  subst this
  rw [he] at he2
  rw [← he2]
theorem phi_mem {fs : List (Int × Int)} {k v : Int} (h : phi fs k = some v) : (k, v) ∈ fs := by
  induction fs with
  | nil => cases h
  | cons q l ih =>
    obtain ⟨j, u⟩ := q
    simp only [phi] at h
    split at h
    · rename_i hkj; cases h; rw [hkj]; exact List.mem_cons_self
    · exact List.mem_cons_of_mem _ (ih h)

theorem hext0 : ExtOk Try.prog cfg := fun _ _ _ h => by cases h

attribute [local irreducible] Go.Am.Sem
set_option maxHeartbeats 1000000 in
theorem f23_pure (p t : List (List Int)) (f g : List (Int × Int)) (hp : okLL p) (ht : okLL t) (hf : f.length ≤ maxLen) (hg : g.length ≤ maxLen) : PureOk Try.prog 23 [.agg [LLI p, LLI t], LP f, LP g] (chanceR p t f g) := by
  have kn := fun h h' K => k46 (h := h) (h' := h') (K := K) p t hp ht
  have n20 : ¬ (2 : Int) = 0 := by decide
  refine PureOk.of_Sem (ow := false) (kn := false) (body := Try.f23.body.getD .skip) Try.func23 rfl rfl (Nat.le_of_ble_eq_true rfl) ?_
  simp only [Try.f23, Option.getD_some, initSt3]
  refine Sem.seqW hext0 (by kernel_rfl) ?_
  simp (disch := first | (simp only [go_sem, Bool.and_self, eq_self]; done) | omega | (simp only [List.length_cons, List.length_nil]; omega)) only [go_sem, ↓reduceIte, Nat.reduceEqDiff, Nat.reduceAdd, Nat.reduceMul, Nat.reduceSub, Int.reduceToNat, Nat.reduceBEq, List.size_toArray, List.length_cons, List.length_nil, Bool.false_and, Bool.true_and, Bool.or_false, Bool.false_or, Bool.and_false, Bool.and_true]
  refine Sem.seqW hext0 (by kernel_rfl) ?_
  cases h1 : netB p t with
  | false =>
    have hr : chanceR p t f g = .tup [.agg [I 0, I 0], I 2] := by simp [chanceR, h1]
    simp (disch := first | (simp only [go_sem, Bool.and_self, eq_self]; done) | omega | (simp only [List.length_cons, List.length_nil]; omega)) only [go_sem, ↓reduceIte, Nat.reduceEqDiff, Nat.reduceAdd, Nat.reduceMul, Nat.reduceSub, Int.reduceToNat, Nat.reduceBEq, List.size_toArray, List.length_cons, List.length_nil, Bool.false_and, Bool.true_and, Bool.or_false, Bool.false_or, Bool.and_false, Bool.and_true, kn, netR_f h1]
    refine Sem.seqW hext0 (by kernel_rfl) ?_
    simp (disch := first | (simp only [go_sem, Bool.and_self, eq_self]; done) | omega | (simp only [List.length_cons, List.length_nil]; omega)) only [go_sem, ↓reduceIte, Nat.reduceEqDiff, Nat.reduceAdd, Nat.reduceMul, Nat.reduceSub, Int.reduceToNat, Nat.reduceBEq, List.size_toArray, List.length_cons, List.length_nil, Bool.false_and, Bool.true_and, Bool.or_false, Bool.false_or, Bool.and_false, Bool.and_true, n20, hr]
  | true =>
  have N := Net.of h1
  have hn1 := N.n1
  simp (disch := first | (simp only [go_sem, Bool.and_self, eq_self]; done) | omega | (simp only [List.length_cons, List.length_nil]; omega)) only [go_sem, ↓reduceIte, Nat.reduceEqDiff, Nat.reduceAdd, Nat.reduceMul, Nat.reduceSub, Int.reduceToNat, Nat.reduceBEq, List.size_toArray, List.length_cons, List.length_nil, Bool.false_and, Bool.true_and, Bool.or_false, Bool.false_or, Bool.and_false, Bool.and_true, kn, netR_t h1]
  refine Sem.seqW hext0 (by kernel_rfl) ?_
  simp (disch := first | (simp only [go_sem, Bool.and_self, eq_self]; done) | omega | (simp only [List.length_cons, List.length_nil]; omega)) only [go_sem, ↓reduceIte, Nat.reduceEqDiff, Nat.reduceAdd, Nat.reduceMul, Nat.reduceSub, Int.reduceToNat, Nat.reduceBEq, List.size_toArray, List.length_cons, List.length_nil, Bool.false_and, Bool.true_and, Bool.or_false, Bool.false_or, Bool.and_false, Bool.and_true]
  refine Sem.seqW hext0 (by kernel_rfl) ?_
  simp (disch := first | (simp only [go_sem, Bool.and_self, eq_self]; done) | omega | (simp only [List.length_cons, List.length_nil]; omega)) only [go_sem, ↓reduceIte, Nat.reduceEqDiff, Nat.reduceAdd, Nat.reduceMul, Nat.reduceSub, Int.reduceToNat, Nat.reduceBEq, List.size_toArray, List.length_cons, List.length_nil, Bool.false_and, Bool.true_and, Bool.or_false, Bool.false_or, Bool.and_false, Bool.and_true]
  refine CallW_shrE shr54 (f54_shr p t p.length (by omega) f hf _) ?_
  rintro v hA ⟨nA, fA, cA⟩
  have a1 := fA 1 (by show 1 < 3; omega)
  have a2 := fA 2 (by show 2 < 3; omega)
  simp (disch := first | (simp only [go_sem, Bool.and_self, eq_self]; done) | omega | (simp only [List.length_cons, List.length_nil]; omega)) only [go_sem, ↓reduceIte, Nat.reduceEqDiff, Nat.reduceAdd, Nat.reduceMul, Nat.reduceSub, Int.reduceToNat, Nat.reduceBEq, List.size_toArray, List.length_cons, List.length_nil, Bool.false_and, Bool.true_and, Bool.or_false, Bool.false_or, Bool.and_false, Bool.and_true] at a1 a2 nA cA
  clear fA
  have en : ∀ (v : AV) (b : Bool), True := fun _ _ => trivial
  have hvA : ∃ m b, v = .tup [m, .bool b] ∧ b = factsB p.length f ∧ (b = true → m = .mp 4 ∧ 4 < hA.nx ∧ hA.bl 4 = some (.mp false (entF f))) := by
    rcases cA with ⟨q1, q2, q3, q4⟩ | ⟨q1, q2⟩
    · exact ⟨_, _, q2, q1.symm, fun _ => ⟨rfl, q3, q4⟩⟩
    · exact ⟨_, _, q2, q1.symm, fun h => by cases h⟩
  clear cA
  obtain ⟨mA, bA, rfl, hbA, cA⟩ := hvA
  simp (disch := first | (simp only [go_sem, Bool.and_self, eq_self]; done) | omega | (simp only [List.length_cons, List.length_nil]; omega)) only [go_sem, ↓reduceIte, Nat.reduceEqDiff, Nat.reduceAdd, Nat.reduceMul, Nat.reduceSub, Int.reduceToNat, Nat.reduceBEq, List.size_toArray, List.length_cons, List.length_nil, Bool.false_and, Bool.true_and, Bool.or_false, Bool.false_or, Bool.and_false, Bool.and_true]
  refine Sem.seqW hext0 (by kernel_rfl) ?_
  simp (disch := first | (simp only [go_sem, Bool.and_self, eq_self]; done) | omega | (simp only [List.length_cons, List.length_nil]; omega)) only [go_sem, ↓reduceIte, Nat.reduceEqDiff, Nat.reduceAdd, Nat.reduceMul, Nat.reduceSub, Int.reduceToNat, Nat.reduceBEq, List.size_toArray, List.length_cons, List.length_nil, Bool.false_and, Bool.true_and, Bool.or_false, Bool.false_or, Bool.and_false, Bool.and_true, a2]
  refine CallW_shrE shr54 (f54_shr p t p.length (by omega) g hg hA) ?_
  rintro v hB ⟨nB, fB, cB⟩
  have b1 := (fB 1 (by omega)).trans a1
  have b2 := (fB 2 (by omega)).trans a2
  have hvB : ∃ m b, v = .tup [m, .bool b] ∧ b = factsB p.length g ∧ (b = true → m = .mp (hA.nx + 1) ∧ hA.nx + 1 < hB.nx ∧ hB.bl (hA.nx + 1) = some (.mp false (entF g))) := by
    rcases cB with ⟨q1, q2, q3, q4⟩ | ⟨q1, q2⟩
    · exact ⟨_, _, q2, q1.symm, fun _ => ⟨rfl, q3, q4⟩⟩
    · exact ⟨_, _, q2, q1.symm, fun h => by cases h⟩
  clear cB
  obtain ⟨mB, bB, rfl, hbB, cB⟩ := hvB
  simp (disch := first | (simp only [go_sem, Bool.and_self, eq_self]; done) | omega | (simp only [List.length_cons, List.length_nil]; omega)) only [go_sem, ↓reduceIte, Nat.reduceEqDiff, Nat.reduceAdd, Nat.reduceMul, Nat.reduceSub, Int.reduceToNat, Nat.reduceBEq, List.size_toArray, List.length_cons, List.length_nil, Bool.false_and, Bool.true_and, Bool.or_false, Bool.false_or, Bool.and_false, Bool.and_true]
  refine Sem.seqW hext0 (by kernel_rfl) ?_
  cases bA with
  | false =>
    have hr : chanceR p t f g = .tup [.agg [I 0, I 0], I 2] := by simp [chanceR, ← hbA]
    simp (disch := first | (simp only [go_sem, Bool.and_self, eq_self]; done) | omega | (simp only [List.length_cons, List.length_nil]; omega)) only [go_sem, ↓reduceIte, Nat.reduceEqDiff, Nat.reduceAdd, Nat.reduceMul, Nat.reduceSub, Int.reduceToNat, Nat.reduceBEq, List.size_toArray, List.length_cons, List.length_nil, Bool.false_and, Bool.true_and, Bool.or_false, Bool.false_or, Bool.and_false, Bool.and_true, b1, hr]
  | true =>
  cases bB with
  | false =>
    have hr : chanceR p t f g = .tup [.agg [I 0, I 0], I 2] := by simp [chanceR, ← hbB]
    simp (disch := first | (simp only [go_sem, Bool.and_self, eq_self]; done) | omega | (simp only [List.length_cons, List.length_nil]; omega)) only [go_sem, ↓reduceIte, Nat.reduceEqDiff, Nat.reduceAdd, Nat.reduceMul, Nat.reduceSub, Int.reduceToNat, Nat.reduceBEq, List.size_toArray, List.length_cons, List.length_nil, Bool.false_and, Bool.true_and, Bool.or_false, Bool.false_or, Bool.and_false, Bool.and_true, b1, hr]
  | true =>
  obtain ⟨rfl, lA, mpA⟩ := cA rfl
  obtain ⟨rfl, lB, mpB⟩ := cB rfl
  have mpA' := (fB 4 lA).trans mpA
  simp (disch := first | (simp only [go_sem, Bool.and_self, eq_self]; done) | omega | (simp only [List.length_cons, List.length_nil]; omega)) only [go_sem, ↓reduceIte, Nat.reduceEqDiff, Nat.reduceAdd, Nat.reduceMul, Nat.reduceSub, Int.reduceToNat, Nat.reduceBEq, List.size_toArray, List.length_cons, List.length_nil, Bool.false_and, Bool.true_and, Bool.or_false, Bool.false_or, Bool.and_false, Bool.and_true]
  refine Sem.seqW hext0 (by kernel_rfl) ?_
  have hse : sealA hB (.mp (hA.nx + 1)) = some (mvE g, hB.put (hA.nx + 1) (some (.mp true (entF g)))) := by
    have hpu : AV.pureL ((entF g).map (·.2)) = true := by
      generalize g = l
      induction l with
      | nil => rfl
      | cons q l ih => simpa [entF, AV.pureL, AV.isPure] using ih
    show sealV0 hB (.mp (hA.nx + 1)) = _
    simp only [sealV0, AV.isPure, mpB, hpu]
    simp
  have ks := fun h h' K => k55 (h := h) (h' := h') (K := K) p t N g
  simp (disch := first | (simp only [go_sem, Bool.and_self, eq_self]; done) | omega | (simp only [List.length_cons, List.length_nil]; omega)) only [go_sem, ↓reduceIte, Nat.reduceEqDiff, Nat.reduceAdd, Nat.reduceMul, Nat.reduceSub, Int.reduceToNat, Nat.reduceBEq, List.size_toArray, List.length_cons, List.length_nil, Bool.false_and, Bool.true_and, Bool.or_false, Bool.false_or, Bool.and_false, Bool.and_true, b2, hse, ks]
  refine Sem.seqW hext0 (by kernel_rfl) ?_
  obtain ⟨z0, z1⟩ := sumB_bounds N g
  by_cases hz : sumB p t g = 0
  · have hr : chanceR p t f g = .tup [.agg [I 0, I 0], I 6] := by simp [chanceR, h1, ← hbA, ← hbB, hz]
    simp (disch := first | (simp only [go_sem, Bool.and_self, eq_self]; done) | omega | (simp only [List.length_cons, List.length_nil]; omega)) only [go_sem, ↓reduceIte, Nat.reduceEqDiff, Nat.reduceAdd, Nat.reduceMul, Nat.reduceSub, Int.reduceToNat, Nat.reduceBEq, List.size_toArray, List.length_cons, List.length_nil, Bool.false_and, Bool.true_and, Bool.or_false, Bool.false_or, Bool.and_false, Bool.and_true, hz, b1, hr]
  simp (disch := first | (simp only [go_sem, Bool.and_self, eq_self]; done) | omega | (simp only [List.length_cons, List.length_nil]; omega)) only [go_sem, ↓reduceIte, Nat.reduceEqDiff, Nat.reduceAdd, Nat.reduceMul, Nat.reduceSub, Int.reduceToNat, Nat.reduceBEq, List.size_toArray, List.length_cons, List.length_nil, Bool.false_and, Bool.true_and, Bool.or_false, Bool.false_or, Bool.and_false, Bool.and_true, hz]
  have hlA : hA.nx + 1 < hB.nx := lB
  refine Sem.seq ?_
  refine (Sem.rangeMap (P := Try.prog) (n := 81) und90 mpA' (by simp (disch := first | (simp only [go_sem, Bool.and_self, eq_self]; done) | omega | (simp only [List.length_cons, List.length_nil]; omega)) only [go_sem, ↓reduceIte, Nat.reduceEqDiff, Nat.reduceAdd, Nat.reduceMul, Nat.reduceSub, Int.reduceToNat, Nat.reduceBEq, List.size_toArray, List.length_cons, List.length_nil, Bool.false_and, Bool.true_and, Bool.or_false, Bool.false_or, Bool.and_false, Bool.and_true]) (by decide) (by decide) (by decide) (by decide) (by decide) (by decide) (by decide) (by decide) (by decide)
    (by decide) (by decide) (by decide) (by decide) (by decide) (by decide) (by decide) (by decide) (by decide) (by decide)
    (fun D st h => st 6 = .ptr 1 0 ∧ st 7 = I 0 ∧ st 8 = .ptr 2 0 ∧ st 12 = .mp (hA.nx + 1) ∧ st 14 = I (sumB p t g) ∧ st 54 = .ptr hB.nx 0 ∧ h.bl hB.nx = some .it ∧ h.bl 1 = some (.cells false false [I 0, I 0]) ∧ h.bl 2 = some (.cells false false [LLI p, LLI t, I p.length]) ∧
      ∃ es, h.bl (hA.nx + 1) = some (.mp false (entF es)) ∧ (∀ k v, phi es k = some v → phi g k = some v ∨ (phi g k = none ∧ (k, I v) ∈ D)) ∧ (∀ k y, phi g k = some y → phi es k = some y) ∧ (∀ k v, (k, I v) ∈ D → phi es k = some v))
    ?_ ?_ ?_ ?_)
  · rintro D st h ⟨_, _, _, _, _, s54, bi, _⟩
    exact ⟨s54, bi⟩
  · refine ⟨by simp (disch := first | (simp only [go_sem, Bool.and_self, eq_self]; done) | omega | (simp only [List.length_cons, List.length_nil]; omega)) only [go_sem, ↓reduceIte, Nat.reduceEqDiff, Nat.reduceAdd, Nat.reduceMul, Nat.reduceSub, Int.reduceToNat, Nat.reduceBEq, List.size_toArray, List.length_cons, List.length_nil, Bool.false_and, Bool.true_and, Bool.or_false, Bool.false_or, Bool.and_false, Bool.and_true], by simp (disch := first | (simp only [go_sem, Bool.and_self, eq_self]; done) | omega | (simp only [List.length_cons, List.length_nil]; omega)) only [go_sem, ↓reduceIte, Nat.reduceEqDiff, Nat.reduceAdd, Nat.reduceMul, Nat.reduceSub, Int.reduceToNat, Nat.reduceBEq, List.size_toArray, List.length_cons, List.length_nil, Bool.false_and, Bool.true_and, Bool.or_false, Bool.false_or, Bool.and_false, Bool.and_true], by simp (disch := first | (simp only [go_sem, Bool.and_self, eq_self]; done) | omega | (simp only [List.length_cons, List.length_nil]; omega)) only [go_sem, ↓reduceIte, Nat.reduceEqDiff, Nat.reduceAdd, Nat.reduceMul, Nat.reduceSub, Int.reduceToNat, Nat.reduceBEq, List.size_toArray, List.length_cons, List.length_nil, Bool.false_and, Bool.true_and, Bool.or_false, Bool.false_or, Bool.and_false, Bool.and_true], by simp (disch := first | (simp only [go_sem, Bool.and_self, eq_self]; done) | omega | (simp only [List.length_cons, List.length_nil]; omega)) only [go_sem, ↓reduceIte, Nat.reduceEqDiff, Nat.reduceAdd, Nat.reduceMul, Nat.reduceSub, Int.reduceToNat, Nat.reduceBEq, List.size_toArray, List.length_cons, List.length_nil, Bool.false_and, Bool.true_and, Bool.or_false, Bool.false_or, Bool.and_false, Bool.and_true], by simp (disch := first | (simp only [go_sem, Bool.and_self, eq_self]; done) | omega | (simp only [List.length_cons, List.length_nil]; omega)) only [go_sem, ↓reduceIte, Nat.reduceEqDiff, Nat.reduceAdd, Nat.reduceMul, Nat.reduceSub, Int.reduceToNat, Nat.reduceBEq, List.size_toArray, List.length_cons, List.length_nil, Bool.false_and, Bool.true_and, Bool.or_false, Bool.false_or, Bool.and_false, Bool.and_true], by simp (disch := first | (simp only [go_sem, Bool.and_self, eq_self]; done) | omega | (simp only [List.length_cons, List.length_nil]; omega)) only [go_sem, ↓reduceIte, Nat.reduceEqDiff, Nat.reduceAdd, Nat.reduceMul, Nat.reduceSub, Int.reduceToNat, Nat.reduceBEq, List.size_toArray, List.length_cons, List.length_nil, Bool.false_and, Bool.true_and, Bool.or_false, Bool.false_or, Bool.and_false, Bool.and_true], by simp [Hp.put, Hp.alloc], ?_, ?_, g, ?_, fun k v h => .inl h, fun k y h => h, fun k v h => by cases h⟩
    · simp [Hp.put, Hp.alloc, show ¬ 1 = hB.nx by omega, b1]
    · simp [Hp.put, Hp.alloc, show ¬ 2 = hB.nx by omega, b2]
    · simp [Hp.put, Hp.alloc, show ¬ hA.nx + 1 = hB.nx by omega, show ¬ hA.nx + 1 = 4 by omega, mpB]
  · rintro D key val st h ⟨s6, s7, s8, s12, s14, s54, bi, c1, c2, es, ce, e1', e2', e3'⟩ hD hmem
    obtain ⟨⟨k, v⟩, hkv, hkv2⟩ := List.mem_map.1 hmem
    simp only [Prod.mk.injEq] at hkv2
    obtain ⟨rfl, rfl⟩ := hkv2
    have hlk := lookB_one 3 3 .i64 (I 0) (hA.nx + 1) false (entF es) k true rfl
    rw [findK_phi] at hlk
    have hfk : findK k (entF es) = (phi es k).map I := findK_phi es k
    refine Sem.mono (Sem.of_WP (cfg := cfg) hext0 (by kernel_rfl) (R := RoundK 1 (fun st h => st 6 = .ptr 1 0 ∧ st 7 = I 0 ∧ st 8 = .ptr 2 0 ∧ st 12 = .mp (hA.nx + 1) ∧ st 14 = I (sumB p t g) ∧ st 54 = .ptr hB.nx 0 ∧ h.bl hB.nx = some .it ∧ h.bl 1 = some (.cells false false [I 0, I 0]) ∧ h.bl 2 = some (.cells false false [LLI p, LLI t, I p.length]) ∧
      ∃ es, h.bl (hA.nx + 1) = some (.mp false (entF es)) ∧ (∀ k' v', phi es k' = some v' → phi g k' = some v' ∨ (phi g k' = none ∧ (k', I v') ∈ D ++ [(k, I v)])) ∧ (∀ k' y, phi g k' = some y → phi es k' = some y) ∧ (∀ k' v', (k', I v') ∈ D ++ [(k, I v)] → phi es k' = some v')) _) ?_) (fun x st h r => r.2)
    have rn : ∀ {J : St → Hp → Prop} {R : Exit → St → Hp → Prop} {st h}, RoundK 1 J R .normal st h = J st h := rfl
    have rr : ∀ {J : St → Hp → Prop} {R : Exit → St → Hp → Prop} {st h}, RoundK 1 J R .ret st h = R .ret st h := rfl
    have same : ∀ k' v', (k', I v') ∈ D → k' = k → v' = v := by
      intro k' v' hm he
      subst he
      have h1 := hD _ hm
      obtain ⟨⟨k2, v2⟩, hkv2, he2⟩ := List.mem_map.1 h1
      simp only [Prod.mk.injEq] at he2
      obtain ⟨rfl, he3⟩ := he2
      have : v2 = v' := by injection he3
      subst this
      have g1 := facts_phi hbA.symm hkv
      have g2 := facts_phi hbA.symm hkv2
      rw [g1] at g2; cases g2; rfl
    cases hph : phi es k with
    | none =>
      rw [hph] at hlk hfk
      simp only [Option.map_none, Option.getD_none, Option.isSome_none] at hlk hfk
      have hno : ∀ q ∈ entF es, q.1 ≠ k := by
        intro q hq he
        have := findK_some (es := entF es) (k := k) ⟨q, hq, he⟩
        rw [hfk] at this; cases this
      have hpk : putK k (I v) (entF es) = entF (es ++ [(k, v)]) := by rw [putK_none hno]; simp [entF]
      have hgk : phi g k = none := by
        cases hgk : phi g k with
        | none => rfl
        | some y => rw [e2' k y hgk] at hph; cases hph
      simp (disch := first | (simp only [go_sem, Bool.and_self, eq_self]; done) | omega | (simp only [List.length_cons, List.length_nil]; omega)) only [go_sem, ↓reduceIte, Nat.reduceEqDiff, Nat.reduceAdd, Nat.reduceMul, Nat.reduceSub, Int.reduceToNat, Nat.reduceBEq, List.size_toArray, List.length_cons, List.length_nil, Bool.false_and, Bool.true_and, Bool.or_false, Bool.false_or, Bool.and_false, Bool.and_true, s12, ce, hlk, hpk, rn]
      refine ⟨s6, s7, s8, s14, s54, ?_, ?_, ?_, es ++ [(k, v)], rfl, fun k' v' hh => ?_, fun k' y hh => ?_, fun k' v' hh => ?_⟩
      · rw [if_neg (by omega)]; exact bi
      · rw [if_neg (by omega)]; exact c1
      · rw [if_neg (by omega)]; exact c2
      · rw [phi_append] at hh
        cases hq : phi es k' with
        | some y =>
          rw [hq] at hh
          simp only [Option.some_or, Option.some.injEq] at hh
          subst hh
          rcases e1' k' y hq with r | ⟨r1, r2⟩
          · exact .inl r
          · exact .inr ⟨r1, List.mem_append_left _ r2⟩
        | none =>
          rw [hq] at hh
          simp only [Option.none_or, phi] at hh
          split at hh
          · rename_i he; cases hh; subst he; exact .inr ⟨hgk, by simp⟩
          · cases hh
      · rw [phi_append, e2' k' y hh]; rfl
      · rw [phi_append]
        rcases List.mem_append.1 hh with hh | hh
        · rw [e3' k' v' hh]; rfl
        · simp only [List.mem_singleton, Prod.mk.injEq] at hh
          obtain ⟨rfl, hv⟩ := hh
          have : v' = v := by injection hv
          subst this
          rw [hph]; simp [phi]
    | some y =>
      rw [hph] at hlk hfk
      simp only [Option.map_some, Option.getD_some, Option.isSome_some] at hlk hfk
      by_cases hy : y = v
      · subst hy
        have hpk : putK k (I y) (entF es) = entF es := by
          clear hlk ce e1' e2' e3' hph
          generalize entF es = l at hfk ⊢
          induction l with
          | nil => cases hfk
          | cons q l ih =>
            obtain ⟨j, u⟩ := q
            simp only [findK] at hfk
            simp only [putK]
            split at hfk
            · rename_i he; cases hfk; rw [if_pos he, he]
            · rename_i he; rw [if_neg he, ih hfk]
        simp (disch := first | (simp only [go_sem, Bool.and_self, eq_self]; done) | omega | (simp only [List.length_cons, List.length_nil]; omega)) only [go_sem, ↓reduceIte, Nat.reduceEqDiff, Nat.reduceAdd, Nat.reduceMul, Nat.reduceSub, Int.reduceToNat, Nat.reduceBEq, List.size_toArray, List.length_cons, List.length_nil, Bool.false_and, Bool.true_and, Bool.or_false, Bool.false_or, Bool.and_false, Bool.and_true, s12, ce, hlk, hpk, rn]
        refine ⟨s6, s7, s8, s14, s54, ?_, ?_, ?_, es, rfl, fun k' v' hh => ?_, e2', fun k' v' hh => ?_⟩
        · rw [if_neg (by omega)]; exact bi
        · rw [if_neg (by omega)]; exact c1
        · rw [if_neg (by omega)]; exact c2
        · rcases e1' k' v' hh with r | ⟨r1, r2⟩
          · exact .inl r
          · exact .inr ⟨r1, List.mem_append_left _ r2⟩
        · rcases List.mem_append.1 hh with hh | hh
          · exact e3' k' v' hh
          · simp only [List.mem_singleton, Prod.mk.injEq] at hh
            obtain ⟨rfl, hv⟩ := hh
            have : v' = y := by injection hv
            subst this
            exact hph
      · have hgk : phi g k = some y := by
          rcases e1' k y hph with r | ⟨r1, r2⟩
          · exact r
          · exact absurd (same k y r2 rfl) hy
        have hcl : clashB g f = true := List.any_eq_true.2 ⟨(k, v), hkv, by simp [hgk, hy]⟩
        have hr : chanceR p t f g = .tup [.agg [I 0, I 1], I 0] := by simp [chanceR, h1, ← hbA, ← hbB, hz, hcl]
        simp (disch := first | (simp only [go_sem, Bool.and_self, eq_self]; done) | omega | (simp only [List.length_cons, List.length_nil]; omega)) only [go_sem, ↓reduceIte, Nat.reduceEqDiff, Nat.reduceAdd, Nat.reduceMul, Nat.reduceSub, Int.reduceToNat, Nat.reduceBEq, List.size_toArray, List.length_cons, List.length_nil, Bool.false_and, Bool.true_and, Bool.or_false, Bool.false_or, Bool.and_false, Bool.and_true, s6, s12, ce, hlk, hy, c1, rr, hr]

        exact trivial
  · rintro D st h ⟨s6, s7, s8, s12, s14, s54, bi, c1, c2, es, ce, e1', e2', e3'⟩ hD hall
    refine ⟨trivial, ?_⟩
    have hin : ∀ k v, (k, v) ∈ f → (k, I v) ∈ D := fun k v hm => hall _ (List.mem_map.2 ⟨(k, v), hm, rfl⟩)
    have hphi : phi es = phi (g ++ f) := by
      funext k
      rw [phi_append]
      cases hgk : phi g k with
      | some y => rw [e2' k y hgk]; rfl
      | none =>
        rw [Option.none_or]
        cases hfk : phi f k with
        | some v => exact e3' k v (hin k v (phi_mem hfk))
        | none =>
          cases hek : phi es k with
          | none => rfl
          | some v =>
            rcases e1' k v hek with r | ⟨_, r⟩
            · rw [hgk] at r; cases r
            · obtain ⟨⟨k2, v2⟩, hkv2, he2⟩ := List.mem_map.1 (hD _ r)
              simp only [Prod.mk.injEq] at he2
              obtain ⟨rfl, _⟩ := he2
              have := facts_phi hbA.symm hkv2
              rw [hfk] at this; cases this
    have hcl : clashB g f = false := by
      rw [clashB, List.any_eq_false]
      rintro ⟨k, v⟩ hm
      have h1 := e3' k v (hin k v hm)
      cases hgk : phi g k with
      | none => simp
      | some y =>
        have := e2' k y hgk
        rw [h1] at this; cases this
        simp
    have hsb : sumB p t es = sumB p t (g ++ f) := by simp only [sumB, hphi]
    have hr : chanceR p t f g = .tup [redu (sumB p t (g ++ f)) (sumB p t g), I 0] := by simp [chanceR, h1, ← hbA, ← hbB, hz, hcl]
    have hse : sealA h (.mp (hA.nx + 1)) = some (mvE es, h.put (hA.nx + 1) (some (.mp true (entF es)))) := by
      have hpu : AV.pureL ((entF es).map (·.2)) = true := by
        generalize es = l
        induction l with
        | nil => rfl
        | cons q l ih => simpa [entF, AV.pureL, AV.isPure] using ih
      show sealV0 h (.mp (hA.nx + 1)) = _
      simp only [sealV0, AV.isPure, ce, hpu]
      simp
    have ks := fun h h' K => k55 (h := h) (h' := h') (K := K) p t N es
    obtain ⟨y0, y1⟩ := sumB_bounds N es
    have kr := fun h h' K => k50 (h := h) (h' := h') (K := K) (sumB p t es) (sumB p t g) ⟨y0, by omega⟩ ⟨by omega, by omega⟩
    rw [← hsb] at hr
    refine Sem.mono (Sem.of_WP (cfg := cfg) hext0 (by kernel_rfl) (R := RetK Try.prog false false Try.f23.results.toList Try.f23.resultTypes.toList (chanceR p t f g)) ?_) (fun x st h r => r.2)
    simp only [Try.f23]
    simp (disch := first | (simp only [go_sem, Bool.and_self, eq_self]; done) | omega | (simp only [List.length_cons, List.length_nil]; omega)) only [go_sem, ↓reduceIte, Nat.reduceEqDiff, Nat.reduceAdd, Nat.reduceMul, Nat.reduceSub, Int.reduceToNat, Nat.reduceBEq, List.size_toArray, List.length_cons, List.length_nil, Bool.false_and, Bool.true_and, Bool.or_false, Bool.false_or, Bool.and_false, Bool.and_true, s6, s7, s8, s12, s14, c1, c2, hse, ks, kr, hr]

end Go.Proofs.Ytpkakapbepkfdaa
