/-
  each: all rows of values that agree with a map, one after the other.
-/
import Derived.Test.YtpkakapbepkfdaaL1I
set_option linter.unusedVariables false
set_option linter.unusedSimpArgs false
set_option maxRecDepth 10000
namespace Go.Proofs.Ytpkakapbepkfdaa
open Go Go.Am

variable {h h' : Hp} {K : AV → Hp → Prop}

def okv (φ : Int → Option Int) (i : Nat) (x : Int) : Bool := match φ i with | some y => decide (y = x) | none => true
/-- The rows that are visited, in their order: 'm' values are still to be chosen. -/
def vis (φ : Int → Option Int) : Nat → List Int → List (List Int)
  | 0, pre => [pre]
  | m + 1, pre => (if okv φ pre.length 0 then vis φ m (pre ++ [0]) else []) ++ (if okv φ pre.length 1 then vis φ m (pre ++ [1]) else [])

/-- What the closures know of memory: where the parts lie, and what a visit does. -/
structure Env (p t : List (List Int)) (n N V X M S g : Nat) (caps : List AV) (mapv : AV) (φ : Int → Option Int) (T : List (List Int)) (G : List (List Int) → List Int → Hp → Prop) : Prop where
  len : ∀ {d xs h}, G d xs h → xs.length = 10
  bN : ∀ {d xs h}, G d xs h → h.bl N = some (.cells false false [LLI p, LLI t, I n])
  bV : ∀ {d xs h}, G d xs h → h.bl V = some (.cells false false [.fn g caps])
  bX : ∀ {d xs h}, G d xs h → h.bl X = some (.cells false false (xs.flatMap (e1 I)))
  bM : ∀ {d xs h}, G d xs h → h.bl M = some (.cells false false [mapv])
  bS : ∀ {d xs h}, G d xs h → h.bl S = some (.cells false false [.fn 77 [.ptr N 0, .ptr V 0, .ptr X 0, .ptr M 0, .ptr S 0]])
  lk : ∀ {d xs h}, G d xs h → ∀ k : Int, lookB (some (.map 3 3)) (some (.int .i64)) (some (I 0)) mapv (h.bl (mpId mapv)) true (I k) true = some (.tup [I ((φ k).getD 0), .bool (φ k).isSome])
  set : ∀ {d xs h}, G d xs h → ∀ i v, i < 10 → G d (xs.set i v) (h.put X (some (.cells false false ((xs.set i v).flatMap (e1 I)))))
  shr : cfg.shared g = true
  visit : ∀ {d xs h}, G d xs h → ∀ w : List Int, w.length = n → xs = ten w → (d ++ [w]) <+: T → ∃ h', Shr Try.prog cfg g (.agg (xs.flatMap (e1 I)) :: caps) h (.tup []) h' ∧ G (d ++ [w]) xs h'

/-- The values chosen so far stand in front, zeros at the end. -/
def Pre (n : Nat) (pre xs : List Int) : Prop := (∀ j, j < pre.length → nth xs j = nth pre j) ∧ ∀ j, n ≤ j → j < 10 → nth xs j = 0
theorem Pre.full {n : Nat} {pre xs : List Int} (hl : pre.length = n) (hn : n ≤ 10) (hx : xs.length = 10) (h : Pre n pre xs) : xs = ten pre := by
  refine List.ext_getElem (by rw [hx, ten_len (by omega)]) fun j h1 h2 => ?_
  rw [← nth_getElem h1, ← nth_getElem h2]
  by_cases hj : j < pre.length
  · rw [h.1 j hj, ten_nth hj]
  · rw [h.2 j (by omega) (by omega)]
    unfold ten
    rw [nth, List.getElem?_append_right (by omega), List.getElem?_drop, List.getElem?_replicate]
    split <;> rfl
theorem Pre.snoc {n : Nat} {pre xs : List Int} {i : Nat} {x : Int} (hx : xs.length = 10) (hl : pre.length = i) (hi : i < n) (hn : n ≤ 10) (h : Pre n pre xs) : Pre n (pre ++ [x]) (xs.set i x) := by
  refine ⟨fun j hj => ?_, fun j h1 h2 => ?_⟩
  · rw [nth_set _ _ _ _ (by omega)]
    simp only [List.length_append, List.length_singleton] at hj
    by_cases he : i = j
    · subst he; rw [if_pos rfl, ← hl, nth, List.getElem?_append_right (Nat.le_refl _)]; simp
    · rw [if_neg he, h.1 j (by omega), nth_append_left _ _ _ (by omega)]
  · rw [nth_set _ _ _ _ (by omega), if_neg (by omega)]; exact h.2 j h1 h2
theorem Pre.back {n : Nat} {pre xs : List Int} {x : Int} (h : Pre n (pre ++ [x]) xs) : Pre n pre xs :=
  ⟨fun j hj => by rw [h.1 j (by simp; omega), nth_append_left _ _ _ hj], h.2⟩

theorem f77_shr {p t : List (List Int)} {n N V X M S g : Nat} {caps : List AV} {mapv : AV} {φ : Int → Option Int} {T : List (List Int)} {G : List (List Int) → List Int → Hp → Prop} (E : Env p t n N V X M S g caps mapv φ T G) (hn : n ≤ 10) :
    ∀ (m i : Nat) (pre xs : List Int) (d : List (List Int)) (h : Hp), pre.length = i → i + m = n → Pre n pre xs → (d ++ vis φ m pre) <+: T → G d xs h →
      ∃ h', Shr Try.prog cfg 77 [I i, .ptr N 0, .ptr V 0, .ptr X 0, .ptr M 0, .ptr S 0] h (.tup []) h' ∧ ∃ xs', Pre n pre xs' ∧ G (d ++ vis φ m pre) xs' h' := by
  intro m
  induction m with
  | zero =>
    intro i pre xs d h hl him hpre hT hg
    have hin : i = n := by omega
    subst hin
    obtain ⟨h', hs, hg'⟩ := E.visit hg pre hl (hpre.full hl hn (E.len hg)) hT
    suffices hh : ∃ v h', Shr Try.prog cfg 77 [I i, .ptr N 0, .ptr V 0, .ptr X 0, .ptr M 0, .ptr S 0] h v h' ∧ (v = .tup [] ∧ ∃ xs', Pre i pre xs' ∧ G (d ++ vis φ 0 pre) xs' h') by
      obtain ⟨v, h', hs, rfl, r⟩ := hh
      exact ⟨h', hs, r⟩
    have hbN := E.bN hg
    have hbV := E.bV hg
    have hbX := E.bX hg
    have hld := loadC_flat xs (E.len hg)
    have hc := fun K => CallW_shr (K := K) g _ E.shr hs
    refine Shr_intro Try.func77 rfl ok77 (Nat.le_of_ble_eq_true rfl) ?_
    simp only [Try.f77, Option.getD_some, initSt6]
    simp (disch := first | (simp only [go_sem, Bool.and_self, eq_self]; done) | omega | (simp only [List.length_cons, List.length_nil]; omega)) only [go_sem, ↓reduceIte, Nat.reduceEqDiff, Nat.reduceAdd, Nat.reduceMul, Nat.reduceSub, Int.reduceToNat, Nat.reduceBEq, List.size_toArray, List.length_cons, List.length_nil, Bool.false_and, Bool.true_and, Bool.or_false, Bool.false_or, Bool.and_false, Bool.and_true, hbN, hbV, hbX, hld, List.cons_append, List.nil_append, hc]
    exact ⟨xs, hpre, hg'⟩
  | succ m ih =>
    intro i pre xs d h hl him hpre hT hg
    suffices hh : ∃ v h', Shr Try.prog cfg 77 [I i, .ptr N 0, .ptr V 0, .ptr X 0, .ptr M 0, .ptr S 0] h v h' ∧ (v = .tup [] ∧ ∃ xs', Pre n pre xs' ∧ G (d ++ vis φ (m + 1) pre) xs' h') by
      obtain ⟨v, h', hs, rfl, r⟩ := hh
      exact ⟨h', hs, r⟩
    have hbN := E.bN hg
    have hne : ¬ (i : Int) = n := by omega
    refine Shr_intro Try.func77 rfl ok77 (Nat.le_of_ble_eq_true rfl) ?_
    simp only [Try.f77, Option.getD_some, initSt6]
    simp (disch := first | (simp only [go_sem, Bool.and_self, eq_self]; done) | omega | (simp only [List.length_cons, List.length_nil]; omega)) only [go_sem, ↓reduceIte, Nat.reduceEqDiff, Nat.reduceAdd, Nat.reduceMul, Nat.reduceSub, Int.reduceToNat, Nat.reduceBEq, List.size_toArray, List.length_cons, List.length_nil, Bool.false_and, Bool.true_and, Bool.or_false, Bool.false_or, Bool.and_false, Bool.and_true, hbN, hne]
    refine WP_for 17 2 (fun k st h => st 0 = I i ∧ st 1 = .ptr N 0 ∧ st 2 = .ptr V 0 ∧ st 3 = .ptr X 0 ∧ st 4 = .ptr M 0 ∧ st 5 = .ptr S 0 ∧ ∃ xs', Pre n pre xs' ∧ G (d ++ ((if 0 < k ∧ okv φ i 0 = true then vis φ m (pre ++ [0]) else []) ++ (if 1 < k ∧ okv φ i 1 = true then vis φ m (pre ++ [1]) else []))) xs' h) (by simp (disch := first | (simp only [go_sem, Bool.and_self, eq_self]; done) | omega | (simp only [List.length_cons, List.length_nil]; omega)) only [go_sem, ↓reduceIte, Nat.reduceEqDiff, Nat.reduceAdd, Nat.reduceMul, Nat.reduceSub, Int.reduceToNat, Nat.reduceBEq, List.size_toArray, List.length_cons, List.length_nil, Bool.false_and, Bool.true_and, Bool.or_false, Bool.false_or, Bool.and_false, Bool.and_true]) ⟨by simp (disch := first | (simp only [go_sem, Bool.and_self, eq_self]; done) | omega | (simp only [List.length_cons, List.length_nil]; omega)) only [go_sem, ↓reduceIte, Nat.reduceEqDiff, Nat.reduceAdd, Nat.reduceMul, Nat.reduceSub, Int.reduceToNat, Nat.reduceBEq, List.size_toArray, List.length_cons, List.length_nil, Bool.false_and, Bool.true_and, Bool.or_false, Bool.false_or, Bool.and_false, Bool.and_true], by simp (disch := first | (simp only [go_sem, Bool.and_self, eq_self]; done) | omega | (simp only [List.length_cons, List.length_nil]; omega)) only [go_sem, ↓reduceIte, Nat.reduceEqDiff, Nat.reduceAdd, Nat.reduceMul, Nat.reduceSub, Int.reduceToNat, Nat.reduceBEq, List.size_toArray, List.length_cons, List.length_nil, Bool.false_and, Bool.true_and, Bool.or_false, Bool.false_or, Bool.and_false, Bool.and_true], by simp (disch := first | (simp only [go_sem, Bool.and_self, eq_self]; done) | omega | (simp only [List.length_cons, List.length_nil]; omega)) only [go_sem, ↓reduceIte, Nat.reduceEqDiff, Nat.reduceAdd, Nat.reduceMul, Nat.reduceSub, Int.reduceToNat, Nat.reduceBEq, List.size_toArray, List.length_cons, List.length_nil, Bool.false_and, Bool.true_and, Bool.or_false, Bool.false_or, Bool.and_false, Bool.and_true], by simp (disch := first | (simp only [go_sem, Bool.and_self, eq_self]; done) | omega | (simp only [List.length_cons, List.length_nil]; omega)) only [go_sem, ↓reduceIte, Nat.reduceEqDiff, Nat.reduceAdd, Nat.reduceMul, Nat.reduceSub, Int.reduceToNat, Nat.reduceBEq, List.size_toArray, List.length_cons, List.length_nil, Bool.false_and, Bool.true_and, Bool.or_false, Bool.false_or, Bool.and_false, Bool.and_true], by simp (disch := first | (simp only [go_sem, Bool.and_self, eq_self]; done) | omega | (simp only [List.length_cons, List.length_nil]; omega)) only [go_sem, ↓reduceIte, Nat.reduceEqDiff, Nat.reduceAdd, Nat.reduceMul, Nat.reduceSub, Int.reduceToNat, Nat.reduceBEq, List.size_toArray, List.length_cons, List.length_nil, Bool.false_and, Bool.true_and, Bool.or_false, Bool.false_or, Bool.and_false, Bool.and_true], by simp (disch := first | (simp only [go_sem, Bool.and_self, eq_self]; done) | omega | (simp only [List.length_cons, List.length_nil]; omega)) only [go_sem, ↓reduceIte, Nat.reduceEqDiff, Nat.reduceAdd, Nat.reduceMul, Nat.reduceSub, Int.reduceToNat, Nat.reduceBEq, List.size_toArray, List.length_cons, List.length_nil, Bool.false_and, Bool.true_and, Bool.or_false, Bool.false_or, Bool.and_false, Bool.and_true], xs, hpre, by simpa using hg⟩ ?_
    rintro k st h hk s17 ⟨s0, s1, s2, s3, s4, s5, xs, hpre, hg⟩
    by_cases hk2 : (k : Int) < 2
    case neg =>
      have hkk : k = 2 := by omega
      subst hkk
      simp (disch := first | (simp only [go_sem, Bool.and_self, eq_self]; done) | omega | (simp only [List.length_cons, List.length_nil]; omega)) only [go_sem, ↓reduceIte, Nat.reduceEqDiff, Nat.reduceAdd, Nat.reduceMul, Nat.reduceSub, Int.reduceToNat, Nat.reduceBEq, List.size_toArray, List.length_cons, List.length_nil, Bool.false_and, Bool.true_and, Bool.or_false, Bool.false_or, Bool.and_false, Bool.and_true, s0, s1, s2, s3, s4, s5, s17, hk2]
      refine ⟨xs, hpre, ?_⟩
      simp only [vis, hl]
      simpa using hg
    have hbM := E.bM hg
    have hlk := E.lk hg i
    have hbX := E.bX hg
    have hbS := E.bS hg
    have hxl := E.len hg
    have hi10 : i < 10 := by omega
    have hSX : ¬ S = X := by
      rintro rfl
      rw [hbX] at hbS
      have := congrArg (fun b => match b with | some (Blk.cells _ _ f) => f.length | _ => 0) hbS
      simp only [flat_len, hxl, List.length_singleton] at this
      omega
    have hcast : ((i + 1 : Nat) : Int) = (i : Int) + 1 := by omega
    have go : okv φ i k = true → ∃ h2 xs2, Shr Try.prog cfg 77 [I ((i : Int) + 1), .ptr N 0, .ptr V 0, .ptr X 0, .ptr M 0, .ptr S 0] (h.put X (some (.cells false false ((xs.set i (k : Int)).flatMap (e1 I))))) (.tup []) h2 ∧ Pre n pre xs2 ∧
        G (d ++ ((if 0 < k + 1 ∧ okv φ i 0 = true then vis φ m (pre ++ [0]) else []) ++ (if 1 < k + 1 ∧ okv φ i 1 = true then vis φ m (pre ++ [1]) else []))) xs2 h2 := by
      intro hok
      have hTk : (d ++ ((if 0 < k ∧ okv φ i 0 = true then vis φ m (pre ++ [0]) else []) ++ (if 1 < k ∧ okv φ i 1 = true then vis φ m (pre ++ [1]) else []))) ++ vis φ m (pre ++ [(k : Int)]) <+: T := by
        refine List.IsPrefix.trans ?_ hT
        simp only [vis, hl]
        have : k = 0 ∨ k = 1 := by omega
        rcases this with rfl | rfl
        · have hok' : okv φ i 0 = true := hok
          simp [hok']
        · have hok' : okv φ i 1 = true := hok
          simp [hok', List.append_assoc]
      obtain ⟨h2, hs2, xs2, hp2, hg2⟩ := ih (i + 1) (pre ++ [(k : Int)]) (xs.set i k) _ _ (by simp [hl]) (by omega) (hpre.snoc hxl hl (by omega) hn) hTk (E.set hg i k hi10)
      rw [hcast] at hs2
      refine ⟨h2, xs2, hs2, hp2.back, ?_⟩
      have : k = 0 ∨ k = 1 := by omega
      rcases this with rfl | rfl
      · have hok' : okv φ i 0 = true := hok
        simpa [hok'] using hg2
      · have hok' : okv φ i 1 = true := hok
        simpa [hok', List.append_assoc] using hg2
    have skip : okv φ i k = false → G (d ++ ((if 0 < k + 1 ∧ okv φ i 0 = true then vis φ m (pre ++ [0]) else []) ++ (if 1 < k + 1 ∧ okv φ i 1 = true then vis φ m (pre ++ [1]) else []))) xs h := by
      intro hok
      have : k = 0 ∨ k = 1 := by omega
      rcases this with rfl | rfl
      · have hok' : okv φ i 0 = false := hok
        simpa [hok'] using hg
      · have hok' : okv φ i 1 = false := hok
        simpa [hok'] using hg
    cases hφ : φ i with
    | none =>
      rw [hφ] at hlk
      simp only [Option.getD_none, Option.isSome_none] at hlk
      obtain ⟨h2, xs2, hs2, hp2, hg2⟩ := go (by simp [okv, hφ])
      have hc := fun K => CallW_shr (K := K) 77 _ shr77 hs2
      simp (disch := first | (simp only [go_sem, Bool.and_self, eq_self]; done) | omega | (simp only [List.length_cons, List.length_nil]; omega)) only [go_sem, ↓reduceIte, Nat.reduceEqDiff, Nat.reduceAdd, Nat.reduceMul, Nat.reduceSub, Int.reduceToNat, Nat.reduceBEq, List.size_toArray, List.length_cons, List.length_nil, Bool.false_and, Bool.true_and, Bool.or_false, Bool.false_or, Bool.and_false, Bool.and_true, s0, s1, s2, s3, s4, s5, s17, hk2, hbM, hlk, hbX, hbS, hSX, hxl, hi10, List.cons_append, List.nil_append, hc]
      rw [ForK_normal]
      exact ⟨by omega, by simp (disch := first | (simp only [go_sem, Bool.and_self, eq_self]; done) | omega | (simp only [List.length_cons, List.length_nil]; omega)) only [go_sem, ↓reduceIte, Nat.reduceEqDiff, Nat.reduceAdd, Nat.reduceMul, Nat.reduceSub, Int.reduceToNat, Nat.reduceBEq, List.size_toArray, List.length_cons, List.length_nil, Bool.false_and, Bool.true_and, Bool.or_false, Bool.false_or, Bool.and_false, Bool.and_true, s17], by simp (disch := first | (simp only [go_sem, Bool.and_self, eq_self]; done) | omega | (simp only [List.length_cons, List.length_nil]; omega)) only [go_sem, ↓reduceIte, Nat.reduceEqDiff, Nat.reduceAdd, Nat.reduceMul, Nat.reduceSub, Int.reduceToNat, Nat.reduceBEq, List.size_toArray, List.length_cons, List.length_nil, Bool.false_and, Bool.true_and, Bool.or_false, Bool.false_or, Bool.and_false, Bool.and_true, s0], by simp (disch := first | (simp only [go_sem, Bool.and_self, eq_self]; done) | omega | (simp only [List.length_cons, List.length_nil]; omega)) only [go_sem, ↓reduceIte, Nat.reduceEqDiff, Nat.reduceAdd, Nat.reduceMul, Nat.reduceSub, Int.reduceToNat, Nat.reduceBEq, List.size_toArray, List.length_cons, List.length_nil, Bool.false_and, Bool.true_and, Bool.or_false, Bool.false_or, Bool.and_false, Bool.and_true, s1], by simp (disch := first | (simp only [go_sem, Bool.and_self, eq_self]; done) | omega | (simp only [List.length_cons, List.length_nil]; omega)) only [go_sem, ↓reduceIte, Nat.reduceEqDiff, Nat.reduceAdd, Nat.reduceMul, Nat.reduceSub, Int.reduceToNat, Nat.reduceBEq, List.size_toArray, List.length_cons, List.length_nil, Bool.false_and, Bool.true_and, Bool.or_false, Bool.false_or, Bool.and_false, Bool.and_true, s2], by simp (disch := first | (simp only [go_sem, Bool.and_self, eq_self]; done) | omega | (simp only [List.length_cons, List.length_nil]; omega)) only [go_sem, ↓reduceIte, Nat.reduceEqDiff, Nat.reduceAdd, Nat.reduceMul, Nat.reduceSub, Int.reduceToNat, Nat.reduceBEq, List.size_toArray, List.length_cons, List.length_nil, Bool.false_and, Bool.true_and, Bool.or_false, Bool.false_or, Bool.and_false, Bool.and_true, s3], by simp (disch := first | (simp only [go_sem, Bool.and_self, eq_self]; done) | omega | (simp only [List.length_cons, List.length_nil]; omega)) only [go_sem, ↓reduceIte, Nat.reduceEqDiff, Nat.reduceAdd, Nat.reduceMul, Nat.reduceSub, Int.reduceToNat, Nat.reduceBEq, List.size_toArray, List.length_cons, List.length_nil, Bool.false_and, Bool.true_and, Bool.or_false, Bool.false_or, Bool.and_false, Bool.and_true, s4], by simp (disch := first | (simp only [go_sem, Bool.and_self, eq_self]; done) | omega | (simp only [List.length_cons, List.length_nil]; omega)) only [go_sem, ↓reduceIte, Nat.reduceEqDiff, Nat.reduceAdd, Nat.reduceMul, Nat.reduceSub, Int.reduceToNat, Nat.reduceBEq, List.size_toArray, List.length_cons, List.length_nil, Bool.false_and, Bool.true_and, Bool.or_false, Bool.false_or, Bool.and_false, Bool.and_true, s5], xs2, hp2, hg2⟩
    | some y =>
      rw [hφ] at hlk
      simp only [Option.getD_some, Option.isSome_some] at hlk
      by_cases hy : y = k
      · obtain ⟨h2, xs2, hs2, hp2, hg2⟩ := go (by simp [okv, hφ, hy])
        have hc := fun K => CallW_shr (K := K) 77 _ shr77 hs2
        simp (disch := first | (simp only [go_sem, Bool.and_self, eq_self]; done) | omega | (simp only [List.length_cons, List.length_nil]; omega)) only [go_sem, ↓reduceIte, Nat.reduceEqDiff, Nat.reduceAdd, Nat.reduceMul, Nat.reduceSub, Int.reduceToNat, Nat.reduceBEq, List.size_toArray, List.length_cons, List.length_nil, Bool.false_and, Bool.true_and, Bool.or_false, Bool.false_or, Bool.and_false, Bool.and_true, s0, s1, s2, s3, s4, s5, s17, hk2, hbM, hlk, hy, hbX, hbS, hSX, hxl, hi10, List.cons_append, List.nil_append, hc]
        rw [ForK_normal]
        exact ⟨by omega, by simp (disch := first | (simp only [go_sem, Bool.and_self, eq_self]; done) | omega | (simp only [List.length_cons, List.length_nil]; omega)) only [go_sem, ↓reduceIte, Nat.reduceEqDiff, Nat.reduceAdd, Nat.reduceMul, Nat.reduceSub, Int.reduceToNat, Nat.reduceBEq, List.size_toArray, List.length_cons, List.length_nil, Bool.false_and, Bool.true_and, Bool.or_false, Bool.false_or, Bool.and_false, Bool.and_true, s17], by simp (disch := first | (simp only [go_sem, Bool.and_self, eq_self]; done) | omega | (simp only [List.length_cons, List.length_nil]; omega)) only [go_sem, ↓reduceIte, Nat.reduceEqDiff, Nat.reduceAdd, Nat.reduceMul, Nat.reduceSub, Int.reduceToNat, Nat.reduceBEq, List.size_toArray, List.length_cons, List.length_nil, Bool.false_and, Bool.true_and, Bool.or_false, Bool.false_or, Bool.and_false, Bool.and_true, s0], by simp (disch := first | (simp only [go_sem, Bool.and_self, eq_self]; done) | omega | (simp only [List.length_cons, List.length_nil]; omega)) only [go_sem, ↓reduceIte, Nat.reduceEqDiff, Nat.reduceAdd, Nat.reduceMul, Nat.reduceSub, Int.reduceToNat, Nat.reduceBEq, List.size_toArray, List.length_cons, List.length_nil, Bool.false_and, Bool.true_and, Bool.or_false, Bool.false_or, Bool.and_false, Bool.and_true, s1], by simp (disch := first | (simp only [go_sem, Bool.and_self, eq_self]; done) | omega | (simp only [List.length_cons, List.length_nil]; omega)) only [go_sem, ↓reduceIte, Nat.reduceEqDiff, Nat.reduceAdd, Nat.reduceMul, Nat.reduceSub, Int.reduceToNat, Nat.reduceBEq, List.size_toArray, List.length_cons, List.length_nil, Bool.false_and, Bool.true_and, Bool.or_false, Bool.false_or, Bool.and_false, Bool.and_true, s2], by simp (disch := first | (simp only [go_sem, Bool.and_self, eq_self]; done) | omega | (simp only [List.length_cons, List.length_nil]; omega)) only [go_sem, ↓reduceIte, Nat.reduceEqDiff, Nat.reduceAdd, Nat.reduceMul, Nat.reduceSub, Int.reduceToNat, Nat.reduceBEq, List.size_toArray, List.length_cons, List.length_nil, Bool.false_and, Bool.true_and, Bool.or_false, Bool.false_or, Bool.and_false, Bool.and_true, s3], by simp (disch := first | (simp only [go_sem, Bool.and_self, eq_self]; done) | omega | (simp only [List.length_cons, List.length_nil]; omega)) only [go_sem, ↓reduceIte, Nat.reduceEqDiff, Nat.reduceAdd, Nat.reduceMul, Nat.reduceSub, Int.reduceToNat, Nat.reduceBEq, List.size_toArray, List.length_cons, List.length_nil, Bool.false_and, Bool.true_and, Bool.or_false, Bool.false_or, Bool.and_false, Bool.and_true, s4], by simp (disch := first | (simp only [go_sem, Bool.and_self, eq_self]; done) | omega | (simp only [List.length_cons, List.length_nil]; omega)) only [go_sem, ↓reduceIte, Nat.reduceEqDiff, Nat.reduceAdd, Nat.reduceMul, Nat.reduceSub, Int.reduceToNat, Nat.reduceBEq, List.size_toArray, List.length_cons, List.length_nil, Bool.false_and, Bool.true_and, Bool.or_false, Bool.false_or, Bool.and_false, Bool.and_true, s5], xs2, hp2, hg2⟩
      · have hg2 := skip (by simp [okv, hφ, hy])
        simp (disch := first | (simp only [go_sem, Bool.and_self, eq_self]; done) | omega | (simp only [List.length_cons, List.length_nil]; omega)) only [go_sem, ↓reduceIte, Nat.reduceEqDiff, Nat.reduceAdd, Nat.reduceMul, Nat.reduceSub, Int.reduceToNat, Nat.reduceBEq, List.size_toArray, List.length_cons, List.length_nil, Bool.false_and, Bool.true_and, Bool.or_false, Bool.false_or, Bool.and_false, Bool.and_true, s0, s1, s2, s3, s4, s5, s17, hk2, hbM, hlk, hy, hbX, hbS, hSX, hxl, hi10]
        rw [ForK_normal]
        exact ⟨by omega, by simp (disch := first | (simp only [go_sem, Bool.and_self, eq_self]; done) | omega | (simp only [List.length_cons, List.length_nil]; omega)) only [go_sem, ↓reduceIte, Nat.reduceEqDiff, Nat.reduceAdd, Nat.reduceMul, Nat.reduceSub, Int.reduceToNat, Nat.reduceBEq, List.size_toArray, List.length_cons, List.length_nil, Bool.false_and, Bool.true_and, Bool.or_false, Bool.false_or, Bool.and_false, Bool.and_true, s17], by simp (disch := first | (simp only [go_sem, Bool.and_self, eq_self]; done) | omega | (simp only [List.length_cons, List.length_nil]; omega)) only [go_sem, ↓reduceIte, Nat.reduceEqDiff, Nat.reduceAdd, Nat.reduceMul, Nat.reduceSub, Int.reduceToNat, Nat.reduceBEq, List.size_toArray, List.length_cons, List.length_nil, Bool.false_and, Bool.true_and, Bool.or_false, Bool.false_or, Bool.and_false, Bool.and_true, s0], by simp (disch := first | (simp only [go_sem, Bool.and_self, eq_self]; done) | omega | (simp only [List.length_cons, List.length_nil]; omega)) only [go_sem, ↓reduceIte, Nat.reduceEqDiff, Nat.reduceAdd, Nat.reduceMul, Nat.reduceSub, Int.reduceToNat, Nat.reduceBEq, List.size_toArray, List.length_cons, List.length_nil, Bool.false_and, Bool.true_and, Bool.or_false, Bool.false_or, Bool.and_false, Bool.and_true, s1], by simp (disch := first | (simp only [go_sem, Bool.and_self, eq_self]; done) | omega | (simp only [List.length_cons, List.length_nil]; omega)) only [go_sem, ↓reduceIte, Nat.reduceEqDiff, Nat.reduceAdd, Nat.reduceMul, Nat.reduceSub, Int.reduceToNat, Nat.reduceBEq, List.size_toArray, List.length_cons, List.length_nil, Bool.false_and, Bool.true_and, Bool.or_false, Bool.false_or, Bool.and_false, Bool.and_true, s2], by simp (disch := first | (simp only [go_sem, Bool.and_self, eq_self]; done) | omega | (simp only [List.length_cons, List.length_nil]; omega)) only [go_sem, ↓reduceIte, Nat.reduceEqDiff, Nat.reduceAdd, Nat.reduceMul, Nat.reduceSub, Int.reduceToNat, Nat.reduceBEq, List.size_toArray, List.length_cons, List.length_nil, Bool.false_and, Bool.true_and, Bool.or_false, Bool.false_or, Bool.and_false, Bool.and_true, s3], by simp (disch := first | (simp only [go_sem, Bool.and_self, eq_self]; done) | omega | (simp only [List.length_cons, List.length_nil]; omega)) only [go_sem, ↓reduceIte, Nat.reduceEqDiff, Nat.reduceAdd, Nat.reduceMul, Nat.reduceSub, Int.reduceToNat, Nat.reduceBEq, List.size_toArray, List.length_cons, List.length_nil, Bool.false_and, Bool.true_and, Bool.or_false, Bool.false_or, Bool.and_false, Bool.and_true, s4], by simp (disch := first | (simp only [go_sem, Bool.and_self, eq_self]; done) | omega | (simp only [List.length_cons, List.length_nil]; omega)) only [go_sem, ↓reduceIte, Nat.reduceEqDiff, Nat.reduceAdd, Nat.reduceMul, Nat.reduceSub, Int.reduceToNat, Nat.reduceBEq, List.size_toArray, List.length_cons, List.length_nil, Bool.false_and, Bool.true_and, Bool.or_false, Bool.false_or, Bool.and_false, Bool.and_true, s5], xs, hpre, hg2⟩

end Go.Proofs.Ytpkakapbepkfdaa
