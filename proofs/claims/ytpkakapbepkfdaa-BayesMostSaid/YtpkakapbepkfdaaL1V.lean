/-
  Likely: the first of the most probable rows.
-/
import Derived.Test.YtpkakapbepkfdaaL1U
set_option linter.unusedVariables false
set_option linter.unusedSimpArgs false
set_option maxRecDepth 10000
namespace Go.Proofs.Ytpkakapbepkfdaa
open Go Go.Am

variable {h h' : Hp} {K : AV → Hp → Prop}

def bestS (p t : List (List Int)) (a : Int × List Int) (w : List Int) : Int × List Int := if a.1 < weightB p t w p.length then (weightB p t w p.length, w) else a
def bestV (p t : List (List Int)) (d : List (List Int)) : Int × List Int := d.foldl (bestS p t) (0, [])
theorem bestV_snoc (p t : List (List Int)) (d : List (List Int)) (w : List Int) : bestV p t (d ++ [w]) = bestS p t (bestV p t d) w := by simp [bestV]

theorem vis_list (φ : Int → Option Int) : ∀ (m : Nat) (pre : List Int), vis φ m pre = ((List.range (2 ^ m)).filter fun x => okFrom φ pre.length (rowN m x)).map fun x => pre ++ rowN m x
  | 0, pre => by simp [vis, rowN, okFrom, List.range_succ]
  | m + 1, pre => by
    have h0 := vis_list φ m (pre ++ [0])
    have h1 := vis_list φ m (pre ++ [1])
    rw [show 2 ^ (m + 1) = 2 ^ m + 2 ^ m by rw [Nat.pow_succ]; omega, List.range_add, List.filter_append, List.map_append, vis]
    congr 1
    · have e : (List.range (2 ^ m)).filter (fun x => okFrom φ pre.length (rowN (m + 1) x)) = (List.range (2 ^ m)).filter (fun x => okv φ pre.length 0 && okFrom φ (pre.length + 1) (rowN m x)) :=
        List.filter_congr fun x hx => by rw [rowN_zero (List.mem_range.1 hx), okFrom]
      rw [e]
      cases okv φ pre.length 0 with
      | false => simp
      | true =>
        simp only [if_true, h0, Bool.true_and, List.length_append, List.length_singleton]
        refine List.map_congr_left fun x hx => ?_
        rw [rowN_zero (List.mem_range.1 (List.mem_filter.1 hx).1)]; simp
    · rw [List.filter_map, List.map_map]
      have e : (List.range (2 ^ m)).filter ((fun x => okFrom φ pre.length (rowN (m + 1) x)) ∘ (2 ^ m + ·)) = (List.range (2 ^ m)).filter (fun x => okv φ pre.length 1 && okFrom φ (pre.length + 1) (rowN m x)) :=
        List.filter_congr fun x hx => by simp only [Function.comp]; rw [rowN_one (List.mem_range.1 hx), okFrom]
      rw [e]
      cases okv φ pre.length 1 with
      | false => simp
      | true =>
        simp only [if_true, h1, Bool.true_and, List.length_append, List.length_singleton]
        refine List.map_congr_left fun x hx => ?_
        simp only [Function.comp]
        rw [rowN_one (List.mem_range.1 (List.mem_filter.1 hx).1)]; simp
theorem bestN_fold (p t : List (List Int)) (f : List (Int × Int)) : ∀ x, bestN p t f x = bestV p t (((List.range x).filter fun y => agreeB (rowN p.length y) f).map (rowN p.length))
  | 0 => rfl
  | x + 1 => by
    rw [bestN, List.range_succ, List.filter_append, List.map_append, bestN_fold p t f x]
    cases ha : agreeB (rowN p.length x) f with
    | false => simp [ha]
    | true =>
      simp only [ha, List.filter_cons_of_pos, List.filter_nil, List.map_cons, List.map_nil, bestV_snoc, Bool.true_and, decide_eq_true_eq]
      rfl
theorem best_vis {p t : List (List Int)} {g : List (Int × Int)} (hg : factsB p.length g = true) : bestV p t (vis (phi g) p.length []) = bestN p t g (2 ^ p.length) := by
  rw [vis_list, bestN_fold]
  have e : ((List.range (2 ^ p.length)).filter fun x => okFrom (phi g) ([] : List Int).length (rowN p.length x)) = (List.range (2 ^ p.length)).filter fun y => agreeB (rowN p.length y) g :=
    List.filter_congr fun x _ => by
      have := ok_facts (g := []) (f := g) rfl hg (by rw [clashB, List.any_eq_false]; intro q _; simp [phi]) (rowN_len p.length x)
      simpa [agreeB] using this
  rw [e]
  rfl
theorem bestV_row {p t : List (List Int)} {n : Nat} : ∀ d : List (List Int), (∀ w ∈ d, w.length = n) → (bestV p t d).2.length ≤ n := by
  intro d hd
  suffices h : ∀ (d : List (List Int)) (a : Int × List Int), a.2.length ≤ n → (∀ w ∈ d, w.length = n) → (d.foldl (bestS p t) a).2.length ≤ n from h d _ (by simp) hd
  intro d
  induction d with
  | nil => intro a ha _; exact ha
  | cons w d ih =>
    intro a ha hd
    refine ih _ ?_ fun w' hw => hd w' (List.mem_cons_of_mem _ hw)
    unfold bestS
    split
    · exact Nat.le_of_eq (hd w List.mem_cons_self)
    · exact ha

/-- The memory of 'Likely' after some visits. -/
structure LikG (p t : List (List Int)) (g : List (Int × Int)) (A B : Nat) (d : List (List Int)) (ys : List Int) (h : Hp) : Prop where
  nx : B + 5 ≤ h.nx
  len : ys.length = 10
  all : ∀ w ∈ d, w.length = p.length
  b1 : h.bl 1 = some (.cells false false [I 0, I 0])
  b2 : h.bl 2 = some (.cells false false [LLI p, LLI t, I p.length])
  b4 : h.bl 4 = some (.mp false (entF g))
  bA : h.bl A = some (.cells false false [I (bestV p t d).1])
  bR : h.bl (A + 1) = some (.cells false false ((ten (bestV p t d).2).flatMap (e1 I)))
  f0 : h.bl B = some (.cells false false [LLI p, LLI t, I p.length])
  f1 : h.bl (B + 1) = some (.cells false false [.mp 4])
  f2 : h.bl (B + 2) = some (.cells false false [.fn 65 [.ptr 2 0, .ptr A 0, .ptr (A + 1) 0]])
  f3 : h.bl (B + 3) = some (.cells false false (ys.flatMap (e1 I)))
  f4 : h.bl (B + 4) = some (.cells false false [.fn 77 [.ptr B 0, .ptr (B + 2) 0, .ptr (B + 3) 0, .ptr (B + 1) 0, .ptr (B + 4) 0]])

theorem storeC_ten (id : Nat) (row : Bool) (xs ys : List Int) (hx : xs.length = 10) (hy : ys.length = 10) :
    storeC h id 0 10 (some (.cells false row (ys.flatMap (e1 I)))) (xs.flatMap (e1 I)) = some (.skp, h.put id (some (.cells false row (xs.flatMap (e1 I))))) := by
  have h1 : (xs.flatMap (e1 I)).all AV.isCell = true := by
    refine List.all_eq_true.2 fun x hx => ?_
    obtain ⟨a, _, ha⟩ := List.mem_flatMap.1 hx
    simp only [e1, List.mem_singleton] at ha
    subst ha; rfl
  rw [storeC_many id 0 10 row _ _ (by rw [flat_len, hx]) h1 (by rw [flat_len, hy]; decide)]
  have := setL_front I xs ys (by omega)
  rw [this, List.drop_of_length_le (by omega), List.append_nil]

theorem likEnv {p t : List (List Int)} (N : Net p t) (g : List (Int × Int)) (A B : Nat) (hA : 4 < A) (hB : B = A + 2) :
    Env p t p.length B (B + 2) (B + 3) (B + 1) (B + 4) 65 [.ptr 2 0, .ptr A 0, .ptr (A + 1) 0] (.mp 4) (phi g) (vis (phi g) p.length []) (fun d xs h => LikG p t g A B d xs h) := by
  refine ⟨fun g => g.len, fun g => g.f0, fun g => g.f2, fun g => g.f3, fun g => g.f1, fun g => g.f4, fun {d xs h} q k => ?_, fun {d xs h} g i v hi => ?_, rfl, fun {d xs h} q w hw hx hT => ?_⟩
  · have h4 : h.bl (mpId (.mp 4)) = some (.mp false (entF g)) := q.b4
    rw [h4, lookB_one 3 3 .i64 (I 0) 4 false (entF g) k true rfl, findK_phi]
    cases phi g k <;> rfl
  · have hbl : ∀ k, k ≠ B + 3 → (h.put (B + 3) (some (.cells false false ((xs.set i v).flatMap (e1 I))))).bl k = h.bl k := fun k hk => by simp [Hp.put, hk]
    exact ⟨g.nx, by simpa using g.len, g.all, (hbl _ (by omega)).trans g.b1, (hbl _ (by omega)).trans g.b2, (hbl _ (by omega)).trans g.b4, (hbl _ (by omega)).trans g.bA, (hbl _ (by omega)).trans g.bR,
      (hbl _ (by omega)).trans g.f0, (hbl _ (by omega)).trans g.f1, (hbl _ (by omega)).trans g.f2, by simp [Hp.put], (hbl _ (by omega)).trans g.f4⟩
  · suffices hh : ∃ v h', Shr Try.prog cfg 65 [.agg (xs.flatMap (e1 I)), .ptr 2 0, .ptr A 0, .ptr (A + 1) 0] h v h' ∧ (v = .tup [] ∧ LikG p t g A B (d ++ [w]) xs h') by
      obtain ⟨v, h', hs, rfl, r⟩ := hh
      exact ⟨h', hs, r⟩
    have hmem : w ∈ vis (phi g) p.length [] := by
      obtain ⟨r, hr⟩ := hT
      rw [← hr]; simp
    obtain ⟨hwl, hwb⟩ := vis_bits hmem
    have hn1 := N.n1
    have hxl := q.len
    have hvals : Vals xs p.length := ⟨hxl, fun i hi => by rw [hx, ten_nth (by omega)]; exact hwb i hi⟩
    have kw := fun h h' K => k51 (h := h) (h' := h') (K := K) p t N xs hvals
    have hwx : weightB p t xs p.length = weightB p t w p.length := weight_congr N fun k hk => by rw [hx, ten_nth (by omega)]
    rw [hwx] at kw
    have hal := fun h => allocB_flat (h := h) xs
    have hld := loadC_flat xs hxl
    have hrl : (ten (bestV p t d).2).length = 10 := ten_len (by have := bestV_row (p := p) (t := t) d q.all; omega)
    have hb2 := q.b2
    have hbA := q.bA
    have hbR := q.bR
    have hnx := q.nx
    have n0 : ¬ 2 = h.nx := by omega
    have n1 : ¬ A = h.nx := by omega
    have n2 : ¬ A + 1 = h.nx := by omega
    have n3 : ¬ A + 1 = A := by omega
    have hst0 : ∀ i, st0 i = .skp := fun _ => rfl
    have hc1 : [A, A + 1].contains h.nx = false := by
      simp only [List.contains_cons, List.contains_nil, Bool.or_false, Bool.or_eq_false_iff, beq_eq_false_iff_ne]; omega
    have hstr : cfg.strict 3 4 = true := rfl
    have hc2 : [A, A + 1].contains A = true := by simp
    have hc3 : [A, A + 1].contains (A + 1) = true := by simp
    have hst := fun h => storeC_ten (h := h) (A + 1) false xs (ten (bestV p t d).2) hxl hrl
    have l1 : h.nx < h.nx + 1 := by omega
    have l2 : A < h.nx + 1 := by omega
    have l3 : A + 1 < h.nx + 1 := by omega
    have hall : ∀ w' ∈ d ++ [w], w'.length = p.length := fun w' hw' => by
      rcases List.mem_append.1 hw' with hw' | hw'
      · exact q.all w' hw'
      · simp only [List.mem_singleton] at hw'; rw [hw']; exact hwl
    by_cases hlt : (bestV p t d).1 < weightB p t w p.length
    · have hb : bestV p t (d ++ [w]) = (weightB p t w p.length, w) := by rw [bestV_snoc, bestS, if_pos hlt]
      refine Shr_intro Try.func65 rfl ok65 (Nat.le_of_ble_eq_true rfl) ?_
      simp only [Try.f65, Option.getD_some, initSt4]
      simp (disch := first | (simp only [go_sem, Bool.and_self, eq_self]; done) | omega | (simp only [List.length_cons, List.length_nil]; omega)) only [go_sem, ↓reduceIte, Nat.reduceEqDiff, Nat.reduceAdd, Nat.reduceMul, Nat.reduceSub, Int.reduceToNat, Nat.reduceBEq, List.size_toArray, List.length_cons, List.length_nil, Bool.false_and, Bool.true_and, Bool.or_false, Bool.false_or, Bool.and_false, Bool.and_true, hal, hld, hb2, hbA, hbR, n0, n1, n2, n3, kw]
      simp only [hlt, decide_true, condW_true, ↓WP_region_t, List.size_toArray, List.length_cons, List.length_nil, Nat.reduceAdd, hstr, regW_t]
      simp only [go_sem, List.filterMap_cons, List.filterMap_nil, hst0]
      simp (disch := first | (simp only [go_sem, Bool.and_self, eq_self]; done) | omega | (simp only [List.length_cons, List.length_nil]; omega)) only [go_sem, ↓reduceIte, Nat.reduceEqDiff, Nat.reduceAdd, Nat.reduceMul, Nat.reduceSub, Int.reduceToNat, Nat.reduceBEq, List.size_toArray, List.length_cons, List.length_nil, Bool.false_and, Bool.true_and, Bool.or_false, Bool.false_or, Bool.and_false, Bool.and_true, List.filterMap_cons, List.filterMap_nil, hst0, hc1, hc2, hc3, l1, l2, l3, Bool.not_false, Bool.not_true, hld, hbA, hbR, n1, n2, n3, hst]
      have hbl : ∀ k, k < B + 5 → k ≠ A → k ≠ A + 1 → (((h.alloc (Blk.cells false false (List.flatMap (e1 I) xs))).put A (some (Blk.cells false false [AV.int IntKind.i64 (weightB p t w p.length)]))).put (A + 1) (some (Blk.cells false false (List.flatMap (e1 I) xs)))).bl k = h.bl k := fun k hk h1 h2 => by
        simp [Hp.alloc, Hp.put, show ¬ k = h.nx by omega, h1, h2]
      refine ⟨by show B + 5 ≤ h.nx + 1; omega, hxl, hall, (hbl _ (by omega) (by omega) (by omega)).trans q.b1, (hbl _ (by omega) (by omega) (by omega)).trans q.b2, (hbl _ (by omega) (by omega) (by omega)).trans q.b4, ?_, ?_,
        (hbl _ (by omega) (by omega) (by omega)).trans q.f0, (hbl _ (by omega) (by omega) (by omega)).trans q.f1, (hbl _ (by omega) (by omega) (by omega)).trans q.f2, (hbl _ (by omega) (by omega) (by omega)).trans q.f3, (hbl _ (by omega) (by omega) (by omega)).trans q.f4⟩
      · rw [hb]; simp [Hp.alloc, Hp.put]
      · rw [hb, hx]; simp [Hp.alloc, Hp.put]
    · have hb : bestV p t (d ++ [w]) = bestV p t d := by rw [bestV_snoc, bestS, if_neg hlt]
      refine Shr_intro Try.func65 rfl ok65 (Nat.le_of_ble_eq_true rfl) ?_
      simp only [Try.f65, Option.getD_some, initSt4]
      simp (disch := first | (simp only [go_sem, Bool.and_self, eq_self]; done) | omega | (simp only [List.length_cons, List.length_nil]; omega)) only [go_sem, ↓reduceIte, Nat.reduceEqDiff, Nat.reduceAdd, Nat.reduceMul, Nat.reduceSub, Int.reduceToNat, Nat.reduceBEq, List.size_toArray, List.length_cons, List.length_nil, Bool.false_and, Bool.true_and, Bool.or_false, Bool.false_or, Bool.and_false, Bool.and_true, hal, hld, hb2, hbA, hbR, n0, n1, n2, n3, kw, hlt]
      have hbl : ∀ k, k < B + 5 → (h.alloc (.cells false false (xs.flatMap (e1 I)))).bl k = h.bl k := fun k hk => by simp [Hp.alloc, show ¬ k = h.nx by omega]
      refine ⟨by show B + 5 ≤ h.nx + 1; omega, hxl, hall, (hbl _ (by omega)).trans q.b1, (hbl _ (by omega)).trans q.b2, (hbl _ (by omega)).trans q.b4, ?_, ?_,
        (hbl _ (by omega)).trans q.f0, (hbl _ (by omega)).trans q.f1, (hbl _ (by omega)).trans q.f2, (hbl _ (by omega)).trans q.f3, (hbl _ (by omega)).trans q.f4⟩
      · rw [hb]; exact (hbl _ (by omega)).trans q.bA
      · rw [hb]; exact (hbl _ (by omega)).trans q.bR

def likR (p t : List (List Int)) (g : List (Int × Int)) : AV := if netB p t then refL p t g else .tup [LI [], .agg [I 0, I 0], I 2]
theorem sealSl_part (id n : Nat) (fz row : Bool) (xs : List Int) (hn : n ≤ xs.length) :
    sealSl h id 0 n 1 (some (.cells fz row (xs.flatMap (e1 I)))) = some (LI (xs.take n), h.put id (some (.cells true row (xs.flatMap (e1 I))))) := by
  have h1 : AV.pureL (xs.flatMap (e1 I)) = true := pureL_flatMap xs
  have h2 : (xs.flatMap (e1 I)).take n = (xs.take n).flatMap (e1 I) := by
    have e : ∀ ys : List Int, ys.flatMap (e1 I) = ys.map I := by
      intro ys
      induction ys with
      | nil => rfl
      | cons y ys ih => simp [e1, ih]
    rw [e, e, List.map_take]
  simp only [sealSl]
  rw [if_pos h1, if_pos ⟨by rw [flat_len]; omega, Nat.one_pos⟩, List.drop_zero, Nat.mul_one, h2]
  have := chunk_flatMap (f := e1 I) (sz := 1) (xs.take n)
  rw [this]
theorem f66_con (xs : List Int) (h0 : 0 < xs.length) (hl : xs.length ≤ 10) : Con Try.prog cfg 66 [LI xs] (.fresh 1 (xs.flatMap (e1 I))) := by
  have happ := fun (h : Hp) (hb : h.bl 0 = some (.cells false true [])) => app_own (P := Try.prog) (h := h) (f := e1 I) 3 8 (I 0) (LI xs) 0 [] xs 0 isz3 ibytes3 izero3 rfl hb rfl (cellsOf_L _ _) (lenA_L _ _) (by simp; omega) (by simp; omega)
  have hne : binA Try.prog .eql 25 (LI xs) .nil = some (.bool false) := by
    cases xs with
    | nil => simp at h0
    | cons x xs => rfl
  have hex : ∀ h : Hp, exportR Try.prog true false [25] (((h.alloc (.cells false true [])).put 0 none).alloc (.cells false true (xs.flatMap (e1 I)))) (.sl (h.nx + 1) 0 xs.length 1) = some (.fresh 1 (xs.flatMap (e1 I))) := fun h =>
    export_fresh (f := e1 I) false 25 3 und25 rfl (.inr ⟨h.nx + 1, rfl, by simp [Hp.alloc, Hp.put], by simp [Hp.alloc, Hp.put]⟩)
  refine Con_intro Try.func66 rfl ok66 (Nat.le_of_ble_eq_true rfl) rfl ?_
  simp only [Try.f66, Option.getD_some, initSt1]
  have hbs := fun h => bsB_empty (P := Try.prog) (h := h) 3 1 (I 0) isz3 izero3 Nat.one_pos
  simp (disch := first | (simp only [go_sem, Bool.and_self, eq_self]; done) | omega | (simp only [List.length_cons, List.length_nil]; omega)) only [go_sem, ↓reduceIte, Nat.reduceEqDiff, Nat.reduceAdd, Nat.reduceMul, Nat.reduceSub, Int.reduceToNat, Nat.reduceBEq, List.size_toArray, List.length_cons, List.length_nil, Bool.false_and, Bool.true_and, Bool.or_false, Bool.false_or, Bool.and_false, Bool.and_true, hne, hbs]
  have happ' := happ (Hp.empty.alloc (.cells false true [])) (by simp [Hp.alloc, Hp.empty])
  simp only [List.length_nil, Nat.zero_add, List.nil_append] at happ'
  simp (disch := first | (simp only [go_sem, Bool.and_self, eq_self]; done) | omega | (simp only [List.length_cons, List.length_nil]; omega)) only [go_sem, ↓reduceIte, Nat.reduceEqDiff, Nat.reduceAdd, Nat.reduceMul, Nat.reduceSub, Int.reduceToNat, Nat.reduceBEq, List.size_toArray, List.length_cons, List.length_nil, Bool.false_and, Bool.true_and, Bool.or_false, Bool.false_or, Bool.and_false, Bool.and_true, happ']
  exact hex Hp.empty
theorem f37_con (p t : List (List Int)) (g : List (Int × Int)) (hp : okLL p) (ht : okLL t) (hg : g.length ≤ maxLen) : Con Try.prog cfg 37 [.agg [LLI p, LLI t], LP g] (likR p t g) := by
  have kn := fun h h' K => k46 (h := h) (h' := h') (K := K) p t hp ht
  have n20 : ¬ (2 : Int) = 0 := by decide
  cases h1 : netB p t with
  | false =>
    have hr : likR p t g = .tup [LI [], .agg [I 0, I 0], I 2] := by simp [likR, h1]
    refine Con_intro Try.func37 rfl ok37 (Nat.le_of_ble_eq_true rfl) rfl ?_
    simp only [Try.f37, Option.getD_some, initSt2]
    simp (disch := first | (simp only [go_sem, Bool.and_self, eq_self]; done) | omega | (simp only [List.length_cons, List.length_nil]; omega)) only [go_sem, ↓reduceIte, Nat.reduceEqDiff, Nat.reduceAdd, Nat.reduceMul, Nat.reduceSub, Int.reduceToNat, Nat.reduceBEq, List.size_toArray, List.length_cons, List.length_nil, Bool.false_and, Bool.true_and, Bool.or_false, Bool.false_or, Bool.and_false, Bool.and_true, kn, netR_f h1, n20, hr]
    rfl
  | true =>
  have N := Net.of h1
  have hn1 := N.n1
  refine Con_intro Try.func37 rfl ok37 (Nat.le_of_ble_eq_true rfl) rfl ?_
  simp only [Try.f37, Option.getD_some, initSt2]
  simp (disch := first | (simp only [go_sem, Bool.and_self, eq_self]; done) | omega | (simp only [List.length_cons, List.length_nil]; omega)) only [go_sem, ↓reduceIte, Nat.reduceEqDiff, Nat.reduceAdd, Nat.reduceMul, Nat.reduceSub, Int.reduceToNat, Nat.reduceBEq, List.size_toArray, List.length_cons, List.length_nil, Bool.false_and, Bool.true_and, Bool.or_false, Bool.false_or, Bool.and_false, Bool.and_true, kn, netR_t h1]
  refine CallW_shrE shr54 (f54_shr p t p.length (by omega) g hg _) ?_
  rintro v hA ⟨nA, fA, cA⟩
  have a1 := fA 1 (by show 1 < 3; omega)
  have a2 := fA 2 (by show 2 < 3; omega)
  simp (disch := first | (simp only [go_sem, Bool.and_self, eq_self]; done) | omega | (simp only [List.length_cons, List.length_nil]; omega)) only [go_sem, ↓reduceIte, Nat.reduceEqDiff, Nat.reduceAdd, Nat.reduceMul, Nat.reduceSub, Int.reduceToNat, Nat.reduceBEq, List.size_toArray, List.length_cons, List.length_nil, Bool.false_and, Bool.true_and, Bool.or_false, Bool.false_or, Bool.and_false, Bool.and_true] at a1 a2 nA cA
  rcases cA with ⟨q1, rfl, q3, q4⟩ | ⟨q1, rfl⟩
  case inr =>
    have hr : likR p t g = .tup [LI [], .agg [I 0, I 0], I 2] := by simp [likR, h1, refL, q1]
    simp (disch := first | (simp only [go_sem, Bool.and_self, eq_self]; done) | omega | (simp only [List.length_cons, List.length_nil]; omega)) only [go_sem, ↓reduceIte, Nat.reduceEqDiff, Nat.reduceAdd, Nat.reduceMul, Nat.reduceSub, Int.reduceToNat, Nat.reduceBEq, List.size_toArray, List.length_cons, List.length_nil, Bool.false_and, Bool.true_and, Bool.or_false, Bool.false_or, Bool.and_false, Bool.and_true, a1, n20, hr]
    rfl
  have b4 : hA.bl 4 = some (.mp false (entF g)) := q4
  have l4 : 4 < hA.nx := q3
  have d0 : ¬ 1 = hA.nx := by omega
  have d1 : ¬ 2 = hA.nx := by omega
  have d2 : ¬ 4 = hA.nx := by omega
  have hal : ∀ g' : Hp, allocB g' (some (.mp 4)) = some (.ptr g'.nx 0, g'.alloc (.cells false false [.mp 4])) := fun _ => rfl
  have hal3 := fun h => allocB_flat (h := h) (List.replicate 10 (0 : Int))
  have d3 : ¬ hA.nx = 1 := by omega
  have d4 : ¬ hA.nx = 3 := by omega
  have d5 : ¬ hA.nx = 0 := by omega
  have hal4 : ∀ g' : Hp, allocB g' (some (.agg ((List.replicate 10 (0 : Int)).flatMap (e1 I)))) = some (.ptr g'.nx 0, g'.alloc (.cells false false ((List.replicate 10 (0 : Int)).flatMap (e1 I)))) := hal3
  let H : Hp := ((hA.alloc (.cells false false [I 0])).put hA.nx (some (.cells false false [I 0]))).alloc (.cells false false ((List.replicate 10 (0 : Int)).flatMap (e1 I)))
  have hHb : ∀ id, id < hA.nx → H.bl id = hA.bl id := fun id hid => by simp [H, Hp.alloc, Hp.put, show ¬ id = hA.nx by omega, show ¬ id = hA.nx + 1 by omega]
  obtain ⟨h', hs, xs', hg⟩ := f64_shr (H := H) (likEnv N g hA.nx H.nx l4 rfl) hn1.2 hal (fun h5 g1 g2 g3 g4 g5 g6 g7 => by
    have hH : H.nx = hA.nx + 2 := rfl
    refine ⟨by omega, rfl, by simp, ?_, ?_, ?_, ?_, ?_, g3, g4, g5, g6, g7⟩
    · rw [g2 _ (by omega), hHb _ (by omega)]; exact a1
    · rw [g2 _ (by omega), hHb _ (by omega)]; exact a2
    · rw [g2 _ (by omega), hHb _ (by omega)]; exact b4
    · rw [g2 _ (by omega)]; simp [H, Hp.alloc, Hp.put, bestV]
    · rw [g2 _ (by omega)]; simp [H, Hp.alloc, Hp.put, bestV, ten])
  have hc := fun K => CallW_shr (K := K) 64 _ shr64 hs
  simp (disch := first | (simp only [go_sem, Bool.and_self, eq_self]; done) | omega | (simp only [List.length_cons, List.length_nil]; omega)) only [go_sem, ↓reduceIte, Nat.reduceEqDiff, Nat.reduceAdd, Nat.reduceMul, Nat.reduceSub, Int.reduceToNat, Nat.reduceBEq, List.size_toArray, List.length_cons, List.length_nil, Bool.false_and, Bool.true_and, Bool.or_false, Bool.false_or, Bool.and_false, Bool.and_true, a1, a2, d0, d1, d2, d3, d4, d5, z10, hal3]
  refine Eq.mpr (hc _) ?_
  have hbv := best_vis (t := t) q1
  have c1 := hg.b1
  have c2 := hg.b2
  have cA := hg.bA
  have cR := hg.bR
  rw [hbv] at cA cR
  have cnx : hA.nx + 7 ≤ h'.nx := hg.nx
  obtain ⟨z0, z1⟩ := bestN_bounds N g (2 ^ p.length)
  by_cases hz : (bestN p t g (2 ^ p.length)).1 = 0
  · have hr : likR p t g = .tup [LI [], .agg [I 0, I 0], I 6] := by simp [likR, h1, refL, q1, hz]
    rw [hz] at cA
    simp (disch := first | (simp only [go_sem, Bool.and_self, eq_self]; done) | omega | (simp only [List.length_cons, List.length_nil]; omega)) only [go_sem, ↓reduceIte, Nat.reduceEqDiff, Nat.reduceAdd, Nat.reduceMul, Nat.reduceSub, Int.reduceToNat, Nat.reduceBEq, List.size_toArray, List.length_cons, List.length_nil, Bool.false_and, Bool.true_and, Bool.or_false, Bool.false_or, Bool.and_false, Bool.and_true, cA, c1, hr]
    rfl
  rcases bestN_row (p := p) (t := t) g (2 ^ p.length) with ⟨h, _⟩ | ⟨y, y1, y2, y3⟩
  · exact absurd h hz
  have hr : likR p t g = .tup [LI (rowN p.length y), redu (weightB p t (rowN p.length y) p.length) (16 ^ p.length), I 0] := by
    simp only [likR, h1, if_true, refL, q1, hz, if_false, y2]; rw [y3]
  rw [y2] at cR
  rw [y3] at cA hz z0 z1
  have hrl : (ten (rowN p.length y)).length = 10 := ten_len (by rw [rowN_len]; omega)
  have htk : (ten (rowN p.length y)).take p.length = rowN p.length y := by
    unfold ten
    rw [List.take_append_of_le_length (by rw [rowN_len]; omega), List.take_of_length_le (by rw [rowN_len]; omega)]
  have hse := fun h => sealSl_part (h := h) (hA.nx + 1) p.length false false (ten (rowN p.length y)) (by omega)
  rw [htk] at hse
  have kcl := fun h h' K => ConW_any (h := h) (h' := h') (K := K) (f66_con (rowN p.length y) (by rw [rowN_len]; omega) (by rw [rowN_len]; omega)) rfl
  have hsl := fun h lim => sliceC_to (hA.nx + 1) false (ten (rowN p.length y)) p.length hrl (by omega) (by omega)
  have kw := fun h h' K => k52 (h := h) (h' := h') (K := K) p t p.length hn1.2
  have hpw := pow16_le (Nat.le_refl p.length) hn1.2
  have hp0 : (0 : Int) < 16 ^ p.length := Int.pow_pos (by decide)
  have kr := fun h h' K => k50 (h := h) (h' := h') (K := K) (weightB p t (rowN p.length y) p.length) (16 ^ p.length) (by omega) (by omega)
  have e0 : 1 < h'.nx := by omega
  have e1' : 2 < h'.nx := by omega
  have e2 : hA.nx < h'.nx := by omega
  have e3 : hA.nx + 1 < h'.nx := by omega
  simp (disch := first | (simp only [go_sem, Bool.and_self, eq_self]; done) | omega | (simp only [List.length_cons, List.length_nil]; omega)) only [go_sem, ↓reduceIte, Nat.reduceEqDiff, Nat.reduceAdd, Nat.reduceMul, Nat.reduceSub, Int.reduceToNat, Nat.reduceBEq, List.size_toArray, List.length_cons, List.length_nil, Bool.false_and, Bool.true_and, Bool.or_false, Bool.false_or, Bool.and_false, Bool.and_true, cA, hz]
  have u1 : ¬ hA.nx = h'.nx := by omega
  have u2 : ¬ hA.nx = hA.nx + 1 := by omega
  have u3 : ¬ 2 = h'.nx := by omega
  have u4 : ¬ 1 = h'.nx := by omega
  have u5 : ¬ h'.nx = 1 := by omega
  have hso := fun h => sealSl_own (h := h) (f := e1 I) (sz := 1) h'.nx (((rowN p.length y).flatMap (e1 I)).length / 1) false true (rowN p.length y) (by rw [flat_len, Nat.div_one])
  simp (disch := first | (simp only [go_sem, Bool.and_self, eq_self]; done) | omega | (simp only [List.length_cons, List.length_nil]; omega)) only [go_sem, ↓reduceIte, Nat.reduceEqDiff, Nat.reduceAdd, Nat.reduceMul, Nat.reduceSub, Int.reduceToNat, Nat.reduceBEq, List.size_toArray, List.length_cons, List.length_nil, Bool.false_and, Bool.true_and, Bool.or_false, Bool.false_or, Bool.and_false, Bool.and_true, cA, cR, c1, c2, hse, kcl, hsl, kw, kr, e0, e1', e2, e3, d0, d1, d2, d3, d4, d5, Int.toNat_natCast, u1, u2, u3, u4, u5, hso, hr]

end Go.Proofs.Ytpkakapbepkfdaa
