/-
  each: all rows of values that agree with a map, one after the other.
  sum: the weights of all rows that agree with a map.
  Chance: a loop over a map.
  awake: run as it stands, with the answer of Chance put in.
  slices.Clone at an empty list: the test for nil may go either way.
  The reference's rows: Values, agrees.
  The reference's Chance.
  The reference's Chance, as a whole.
  Chance and the reference's Chance are the same: plain Lean.
  The laws' own configuration: what the functions below them answer is known.
  'BayesJoints' answers true.
  Contracts that are only described; parts of a body.
  mod, tame: some network, made of any.
  Valid fractions; networks on their way.
  ints: two lists compared.
  force: the network in which a variable has a value.
  The reference's Force; same.
  Force and Effect.
  'BayesChances' answers true.
  some: some facts about a network, made of any pairs.
-/
import Derived.Test.YtpkakapbepkfdaaL1M1
import Derived.Test.YtpkakapbepkfdaaAmEnd
set_option linter.unusedVariables false
set_option linter.unusedSimpArgs false
set_option maxRecDepth 10000
namespace Go.Proofs.Ytpkakapbepkfdaa
open Go Go.Am

variable {h h' : Hp} {K : AV → Hp → Prop}

def okv (φ : Int → Option Int) (i : Nat) (x : Int) : Bool := match φ i with | some y => decide (y = x) | none => true
/-- The rows that are visited, in their order: 'm' values are still to be chosen. -/
def vis (φ : Int → Option Int) : Nat → List Int → List (List Int)
  | 0, pre => [pre]
  | m + 1, pre => (if okv φ pre.length 0 then vis φ m (pre ++ [0]) else []) ++ (if okv φ pre.length 1 then vis φ m (pre ++ [1]) else [])

/-- What the closures know of memory: where the parts lie, and what a visit does. -/
structure Env (p t : List (List Int)) (n N V X M S g : Nat) (caps : List AV) (mapv : AV) (φ : Int → Option Int) (T : List (List Int)) (G : List (List Int) → List Int → Hp → Prop) : Prop where
  len : ∀ {d xs h}, G d xs h → xs.length = 10
  bN : ∀ {d xs h}, G d xs h → h.bl N = some (.cells false false [LLI p, LLI t, I n])
  bV : ∀ {d xs h}, G d xs h → h.bl V = some (.cells false false [.fn g caps])
  bX : ∀ {d xs h}, G d xs h → h.bl X = some (.cells false false (xs.flatMap (e1 I)))
  bM : ∀ {d xs h}, G d xs h → h.bl M = some (.cells false false [mapv])
  bS : ∀ {d xs h}, G d xs h → h.bl S = some (.cells false false [.fn 77 [.ptr N 0, .ptr V 0, .ptr X 0, .ptr M 0, .ptr S 0]])
  lk : ∀ {d xs h}, G d xs h → ∀ k : Int, lookB (some (.map 3 3)) (some (.int .i64)) (some (I 0)) mapv (h.bl (mpId mapv)) true (I k) true = some (.tup [I ((φ k).getD 0), .bool (φ k).isSome])
  set : ∀ {d xs h}, G d xs h → ∀ i v, i < 10 → G d (xs.set i v) (h.put X (some (.cells false false ((xs.set i v).flatMap (e1 I)))))
  shr : cfg.shared g = true
  visit : ∀ {d xs h}, G d xs h → ∀ w : List Int, w.length = n → xs = ten w → (d ++ [w]) <+: T → ∃ h', Shr Try.prog cfg g (.agg (xs.flatMap (e1 I)) :: caps) h (.tup []) h' ∧ G (d ++ [w]) xs h'

/-- The values chosen so far stand in front, zeros at the end. -/
def Pre (n : Nat) (pre xs : List Int) : Prop := (∀ j, j < pre.length → nth xs j = nth pre j) ∧ ∀ j, n ≤ j → j < 10 → nth xs j = 0
theorem Pre.full {n : Nat} {pre xs : List Int} (hl : pre.length = n) (hn : n ≤ 10) (hx : xs.length = 10) (h : Pre n pre xs) : xs = ten pre := by
  refine List.ext_getElem (by rw [hx, ten_len (by omega)]) fun j h1 h2 => ?_
  rw [← nth_getElem h1, ← nth_getElem h2]
  by_cases hj : j < pre.length
  · rw [h.1 j hj, ten_nth hj]
  · rw [h.2 j (by omega) (by omega)]
    unfold ten
    rw [nth, List.getElem?_append_right (by omega), List.getElem?_drop, List.getElem?_replicate]
    split <;> rfl
theorem Pre.snoc {n : Nat} {pre xs : List Int} {i : Nat} {x : Int} (hx : xs.length = 10) (hl : pre.length = i) (hi : i < n) (hn : n ≤ 10) (h : Pre n pre xs) : Pre n (pre ++ [x]) (xs.set i x) := by
  refine ⟨fun j hj => ?_, fun j h1 h2 => ?_⟩
  · rw [nth_set _ _ _ _ (by omega)]
    simp only [List.length_append, List.length_singleton] at hj
    by_cases he : i = j
    · subst he; rw [if_pos rfl, ← hl, nth, List.getElem?_append_right (Nat.le_refl _)]; simp
    · rw [if_neg he, h.1 j (by omega), nth_append_left _ _ _ (by omega)]
  · rw [nth_set _ _ _ _ (by omega), if_neg (by omega)]; exact h.2 j h1 h2
theorem Pre.back {n : Nat} {pre xs : List Int} {x : Int} (h : Pre n (pre ++ [x]) xs) : Pre n pre xs :=
  ⟨fun j hj => by rw [h.1 j (by simp; omega), nth_append_left _ _ _ hj], h.2⟩

theorem f77_shr {p t : List (List Int)} {n N V X M S g : Nat} {caps : List AV} {mapv : AV} {φ : Int → Option Int} {T : List (List Int)} {G : List (List Int) → List Int → Hp → Prop} (E : Env p t n N V X M S g caps mapv φ T G) (hn : n ≤ 10) :
    ∀ (m i : Nat) (pre xs : List Int) (d : List (List Int)) (h : Hp), pre.length = i → i + m = n → Pre n pre xs → (d ++ vis φ m pre) <+: T → G d xs h →
      ∃ h', Shr Try.prog cfg 77 [I i, .ptr N 0, .ptr V 0, .ptr X 0, .ptr M 0, .ptr S 0] h (.tup []) h' ∧ ∃ xs', Pre n pre xs' ∧ G (d ++ vis φ m pre) xs' h' := by
  intro m
  induction m with
  | zero =>
    intro i pre xs d h hl him hpre hT hg
    have hin : i = n := by omega
    subst hin
    obtain ⟨h', hs, hg'⟩ := E.visit hg pre hl (hpre.full hl hn (E.len hg)) hT
    suffices hh : ∃ v h', Shr Try.prog cfg 77 [I i, .ptr N 0, .ptr V 0, .ptr X 0, .ptr M 0, .ptr S 0] h v h' ∧ (v = .tup [] ∧ ∃ xs', Pre i pre xs' ∧ G (d ++ vis φ 0 pre) xs' h') by
      obtain ⟨v, h', hs, rfl, r⟩ := hh
      exact ⟨h', hs, r⟩
    have hbN := E.bN hg
    have hbV := E.bV hg
    have hbX := E.bX hg
    have hld := loadC_flat xs (E.len hg)
    have hc := fun K => CallW_shr (K := K) g _ E.shr hs
    refine Shr_intro Try.func77 rfl ok77 (Nat.le_of_ble_eq_true rfl) ?_
    simp only [Try.f77, Option.getD_some, initSt6]
    simp (disch := first | (simp only [go_sem, Bool.and_self, eq_self]; done) | omega | (simp only [List.length_cons, List.length_nil]; omega)) only [go_sem, ↓reduceIte, Nat.reduceEqDiff, Nat.reduceAdd, Nat.reduceMul, Nat.reduceSub, Int.reduceToNat, Nat.reduceBEq, List.size_toArray, List.length_cons, List.length_nil, Bool.false_and, Bool.true_and, Bool.or_false, Bool.false_or, Bool.and_false, Bool.and_true, hbN, hbV, hbX, hld, List.cons_append, List.nil_append, hc]
    exact ⟨xs, hpre, hg'⟩
  | succ m ih =>
    intro i pre xs d h hl him hpre hT hg
    suffices hh : ∃ v h', Shr Try.prog cfg 77 [I i, .ptr N 0, .ptr V 0, .ptr X 0, .ptr M 0, .ptr S 0] h v h' ∧ (v = .tup [] ∧ ∃ xs', Pre n pre xs' ∧ G (d ++ vis φ (m + 1) pre) xs' h') by
      obtain ⟨v, h', hs, rfl, r⟩ := hh
      exact ⟨h', hs, r⟩
    have hbN := E.bN hg
    have hne : ¬ (i : Int) = n := by omega
    refine Shr_intro Try.func77 rfl ok77 (Nat.le_of_ble_eq_true rfl) ?_
    simp only [Try.f77, Option.getD_some, initSt6]
    simp (disch := first | (simp only [go_sem, Bool.and_self, eq_self]; done) | omega | (simp only [List.length_cons, List.length_nil]; omega)) only [go_sem, ↓reduceIte, Nat.reduceEqDiff, Nat.reduceAdd, Nat.reduceMul, Nat.reduceSub, Int.reduceToNat, Nat.reduceBEq, List.size_toArray, List.length_cons, List.length_nil, Bool.false_and, Bool.true_and, Bool.or_false, Bool.false_or, Bool.and_false, Bool.and_true, hbN, hne]
    refine WP_for 17 2 (fun k st h => st 0 = I i ∧ st 1 = .ptr N 0 ∧ st 2 = .ptr V 0 ∧ st 3 = .ptr X 0 ∧ st 4 = .ptr M 0 ∧ st 5 = .ptr S 0 ∧ ∃ xs', Pre n pre xs' ∧ G (d ++ ((if 0 < k ∧ okv φ i 0 = true then vis φ m (pre ++ [0]) else []) ++ (if 1 < k ∧ okv φ i 1 = true then vis φ m (pre ++ [1]) else []))) xs' h) (by simp (disch := first | (simp only [go_sem, Bool.and_self, eq_self]; done) | omega | (simp only [List.length_cons, List.length_nil]; omega)) only [go_sem, ↓reduceIte, Nat.reduceEqDiff, Nat.reduceAdd, Nat.reduceMul, Nat.reduceSub, Int.reduceToNat, Nat.reduceBEq, List.size_toArray, List.length_cons, List.length_nil, Bool.false_and, Bool.true_and, Bool.or_false, Bool.false_or, Bool.and_false, Bool.and_true]) ⟨by simp (disch := first | (simp only [go_sem, Bool.and_self, eq_self]; done) | omega | (simp only [List.length_cons, List.length_nil]; omega)) only [go_sem, ↓reduceIte, Nat.reduceEqDiff, Nat.reduceAdd, Nat.reduceMul, Nat.reduceSub, Int.reduceToNat, Nat.reduceBEq, List.size_toArray, List.length_cons, List.length_nil, Bool.false_and, Bool.true_and, Bool.or_false, Bool.false_or, Bool.and_false, Bool.and_true], by simp (disch := first | (simp only [go_sem, Bool.and_self, eq_self]; done) | omega | (simp only [List.length_cons, List.length_nil]; omega)) only [go_sem, ↓reduceIte, Nat.reduceEqDiff, Nat.reduceAdd, Nat.reduceMul, Nat.reduceSub, Int.reduceToNat, Nat.reduceBEq, List.size_toArray, List.length_cons, List.length_nil, Bool.false_and, Bool.true_and, Bool.or_false, Bool.false_or, Bool.and_false, Bool.and_true], by simp (disch := first | (simp only [go_sem, Bool.and_self, eq_self]; done) | omega | (simp only [List.length_cons, List.length_nil]; omega)) only [go_sem, ↓reduceIte, Nat.reduceEqDiff, Nat.reduceAdd, Nat.reduceMul, Nat.reduceSub, Int.reduceToNat, Nat.reduceBEq, List.size_toArray, List.length_cons, List.length_nil, Bool.false_and, Bool.true_and, Bool.or_false, Bool.false_or, Bool.and_false, Bool.and_true], by simp (disch := first | (simp only [go_sem, Bool.and_self, eq_self]; done) | omega | (simp only [List.length_cons, List.length_nil]; omega)) only [go_sem, ↓reduceIte, Nat.reduceEqDiff, Nat.reduceAdd, Nat.reduceMul, Nat.reduceSub, Int.reduceToNat, Nat.reduceBEq, List.size_toArray, List.length_cons, List.length_nil, Bool.false_and, Bool.true_and, Bool.or_false, Bool.false_or, Bool.and_false, Bool.and_true], by simp (disch := first | (simp only [go_sem, Bool.and_self, eq_self]; done) | omega | (simp only [List.length_cons, List.length_nil]; omega)) only [go_sem, ↓reduceIte, Nat.reduceEqDiff, Nat.reduceAdd, Nat.reduceMul, Nat.reduceSub, Int.reduceToNat, Nat.reduceBEq, List.size_toArray, List.length_cons, List.length_nil, Bool.false_and, Bool.true_and, Bool.or_false, Bool.false_or, Bool.and_false, Bool.and_true], by simp (disch := first | (simp only [go_sem, Bool.and_self, eq_self]; done) | omega | (simp only [List.length_cons, List.length_nil]; omega)) only [go_sem, ↓reduceIte, Nat.reduceEqDiff, Nat.reduceAdd, Nat.reduceMul, Nat.reduceSub, Int.reduceToNat, Nat.reduceBEq, List.size_toArray, List.length_cons, List.length_nil, Bool.false_and, Bool.true_and, Bool.or_false, Bool.false_or, Bool.and_false, Bool.and_true], xs, hpre, by simpa using hg⟩ ?_
    rintro k st h hk s17 ⟨s0, s1, s2, s3, s4, s5, xs, hpre, hg⟩
    by_cases hk2 : (k : Int) < 2
    case neg =>
      have hkk : k = 2 := by omega
      subst hkk
      simp (disch := first | (simp only [go_sem, Bool.and_self, eq_self]; done) | omega | (simp only [List.length_cons, List.length_nil]; omega)) only [go_sem, ↓reduceIte, Nat.reduceEqDiff, Nat.reduceAdd, Nat.reduceMul, Nat.reduceSub, Int.reduceToNat, Nat.reduceBEq, List.size_toArray, List.length_cons, List.length_nil, Bool.false_and, Bool.true_and, Bool.or_false, Bool.false_or, Bool.and_false, Bool.and_true, s0, s1, s2, s3, s4, s5, s17, hk2]
      refine ⟨xs, hpre, ?_⟩
      simp only [vis, hl]
      simpa using hg
    have hbM := E.bM hg
    have hlk := E.lk hg i
    have hbX := E.bX hg
    have hbS := E.bS hg
    have hxl := E.len hg
    have hi10 : i < 10 := by omega
    have hSX : ¬ S = X := by
      rintro rfl
      rw [hbX] at hbS
      have := congrArg (fun b => match b with | some (Blk.cells _ _ f) => f.length | _ => 0) hbS
      simp only [flat_len, hxl, List.length_singleton] at this
      omega
    have hcast : ((i + 1 : Nat) : Int) = (i : Int) + 1 := by omega
    have go : okv φ i k = true → ∃ h2 xs2, Shr Try.prog cfg 77 [I ((i : Int) + 1), .ptr N 0, .ptr V 0, .ptr X 0, .ptr M 0, .ptr S 0] (h.put X (some (.cells false false ((xs.set i (k : Int)).flatMap (e1 I))))) (.tup []) h2 ∧ Pre n pre xs2 ∧
        G (d ++ ((if 0 < k + 1 ∧ okv φ i 0 = true then vis φ m (pre ++ [0]) else []) ++ (if 1 < k + 1 ∧ okv φ i 1 = true then vis φ m (pre ++ [1]) else []))) xs2 h2 := by
      intro hok
      have hTk : (d ++ ((if 0 < k ∧ okv φ i 0 = true then vis φ m (pre ++ [0]) else []) ++ (if 1 < k ∧ okv φ i 1 = true then vis φ m (pre ++ [1]) else []))) ++ vis φ m (pre ++ [(k : Int)]) <+: T := by
        refine List.IsPrefix.trans ?_ hT
        simp only [vis, hl]
        have : k = 0 ∨ k = 1 := by omega
        rcases this with rfl | rfl
        · have hok' : okv φ i 0 = true := hok
          simp [hok']
        · have hok' : okv φ i 1 = true := hok
          simp [hok', List.append_assoc]
      obtain ⟨h2, hs2, xs2, hp2, hg2⟩ := ih (i + 1) (pre ++ [(k : Int)]) (xs.set i k) _ _ (by simp [hl]) (by omega) (hpre.snoc hxl hl (by omega) hn) hTk (E.set hg i k hi10)
      rw [hcast] at hs2
      refine ⟨h2, xs2, hs2, hp2.back, ?_⟩
      have : k = 0 ∨ k = 1 := by omega
      rcases this with rfl | rfl
      · have hok' : okv φ i 0 = true := hok
        simpa [hok'] using hg2
      · have hok' : okv φ i 1 = true := hok
        simpa [hok', List.append_assoc] using hg2
    have skip : okv φ i k = false → G (d ++ ((if 0 < k + 1 ∧ okv φ i 0 = true then vis φ m (pre ++ [0]) else []) ++ (if 1 < k + 1 ∧ okv φ i 1 = true then vis φ m (pre ++ [1]) else []))) xs h := by
      intro hok
      have : k = 0 ∨ k = 1 := by omega
      rcases this with rfl | rfl
      · have hok' : okv φ i 0 = false := hok
        simpa [hok'] using hg
      · have hok' : okv φ i 1 = false := hok
        simpa [hok'] using hg
    cases hφ : φ i with
    | none =>
      rw [hφ] at hlk
      simp only [Option.getD_none, Option.isSome_none] at hlk
      obtain ⟨h2, xs2, hs2, hp2, hg2⟩ := go (by simp [okv, hφ])
      have hc := fun K => CallW_shr (K := K) 77 _ shr77 hs2
      simp (disch := first | (simp only [go_sem, Bool.and_self, eq_self]; done) | omega | (simp only [List.length_cons, List.length_nil]; omega)) only [go_sem, ↓reduceIte, Nat.reduceEqDiff, Nat.reduceAdd, Nat.reduceMul, Nat.reduceSub, Int.reduceToNat, Nat.reduceBEq, List.size_toArray, List.length_cons, List.length_nil, Bool.false_and, Bool.true_and, Bool.or_false, Bool.false_or, Bool.and_false, Bool.and_true, s0, s1, s2, s3, s4, s5, s17, hk2, hbM, hlk, hbX, hbS, hSX, hxl, hi10, List.cons_append, List.nil_append, hc]
      rw [ForK_normal]
      exact ⟨by omega, by simp (disch := first | (simp only [go_sem, Bool.and_self, eq_self]; done) | omega | (simp only [List.length_cons, List.length_nil]; omega)) only [go_sem, ↓reduceIte, Nat.reduceEqDiff, Nat.reduceAdd, Nat.reduceMul, Nat.reduceSub, Int.reduceToNat, Nat.reduceBEq, List.size_toArray, List.length_cons, List.length_nil, Bool.false_and, Bool.true_and, Bool.or_false, Bool.false_or, Bool.and_false, Bool.and_true, s17], by simp (disch := first | (simp only [go_sem, Bool.and_self, eq_self]; done) | omega | (simp only [List.length_cons, List.length_nil]; omega)) only [go_sem, ↓reduceIte, Nat.reduceEqDiff, Nat.reduceAdd, Nat.reduceMul, Nat.reduceSub, Int.reduceToNat, Nat.reduceBEq, List.size_toArray, List.length_cons, List.length_nil, Bool.false_and, Bool.true_and, Bool.or_false, Bool.false_or, Bool.and_false, Bool.and_true, s0], by simp (disch := first | (simp only [go_sem, Bool.and_self, eq_self]; done) | omega | (simp only [List.length_cons, List.length_nil]; omega)) only [go_sem, ↓reduceIte, Nat.reduceEqDiff, Nat.reduceAdd, Nat.reduceMul, Nat.reduceSub, Int.reduceToNat, Nat.reduceBEq, List.size_toArray, List.length_cons, List.length_nil, Bool.false_and, Bool.true_and, Bool.or_false, Bool.false_or, Bool.and_false, Bool.and_true, s1], by simp (disch := first | (simp only [go_sem, Bool.and_self, eq_self]; done) | omega | (simp only [List.length_cons, List.length_nil]; omega)) only [go_sem, ↓reduceIte, Nat.reduceEqDiff, Nat.reduceAdd, Nat.reduceMul, Nat.reduceSub, Int.reduceToNat, Nat.reduceBEq, List.size_toArray, List.length_cons, List.length_nil, Bool.false_and, Bool.true_and, Bool.or_false, Bool.false_or, Bool.and_false, Bool.and_true, s2], by simp (disch := first | (simp only [go_sem, Bool.and_self, eq_self]; done) | omega | (simp only [List.length_cons, List.length_nil]; omega)) only [go_sem, ↓reduceIte, Nat.reduceEqDiff, Nat.reduceAdd, Nat.reduceMul, Nat.reduceSub, Int.reduceToNat, Nat.reduceBEq, List.size_toArray, List.length_cons, List.length_nil, Bool.false_and, Bool.true_and, Bool.or_false, Bool.false_or, Bool.and_false, Bool.and_true, s3], by simp (disch := first | (simp only [go_sem, Bool.and_self, eq_self]; done) | omega | (simp only [List.length_cons, List.length_nil]; omega)) only [go_sem, ↓reduceIte, Nat.reduceEqDiff, Nat.reduceAdd, Nat.reduceMul, Nat.reduceSub, Int.reduceToNat, Nat.reduceBEq, List.size_toArray, List.length_cons, List.length_nil, Bool.false_and, Bool.true_and, Bool.or_false, Bool.false_or, Bool.and_false, Bool.and_true, s4], by simp (disch := first | (simp only [go_sem, Bool.and_self, eq_self]; done) | omega | (simp only [List.length_cons, List.length_nil]; omega)) only [go_sem, ↓reduceIte, Nat.reduceEqDiff, Nat.reduceAdd, Nat.reduceMul, Nat.reduceSub, Int.reduceToNat, Nat.reduceBEq, List.size_toArray, List.length_cons, List.length_nil, Bool.false_and, Bool.true_and, Bool.or_false, Bool.false_or, Bool.and_false, Bool.and_true, s5], xs2, hp2, hg2⟩
    | some y =>
      rw [hφ] at hlk
      simp only [Option.getD_some, Option.isSome_some] at hlk
      by_cases hy : y = k
      · obtain ⟨h2, xs2, hs2, hp2, hg2⟩ := go (by simp [okv, hφ, hy])
        have hc := fun K => CallW_shr (K := K) 77 _ shr77 hs2
        simp (disch := first | (simp only [go_sem, Bool.and_self, eq_self]; done) | omega | (simp only [List.length_cons, List.length_nil]; omega)) only [go_sem, ↓reduceIte, Nat.reduceEqDiff, Nat.reduceAdd, Nat.reduceMul, Nat.reduceSub, Int.reduceToNat, Nat.reduceBEq, List.size_toArray, List.length_cons, List.length_nil, Bool.false_and, Bool.true_and, Bool.or_false, Bool.false_or, Bool.and_false, Bool.and_true, s0, s1, s2, s3, s4, s5, s17, hk2, hbM, hlk, hy, hbX, hbS, hSX, hxl, hi10, List.cons_append, List.nil_append, hc]
        rw [ForK_normal]
        exact ⟨by omega, by simp (disch := first | (simp only [go_sem, Bool.and_self, eq_self]; done) | omega | (simp only [List.length_cons, List.length_nil]; omega)) only [go_sem, ↓reduceIte, Nat.reduceEqDiff, Nat.reduceAdd, Nat.reduceMul, Nat.reduceSub, Int.reduceToNat, Nat.reduceBEq, List.size_toArray, List.length_cons, List.length_nil, Bool.false_and, Bool.true_and, Bool.or_false, Bool.false_or, Bool.and_false, Bool.and_true, s17], by simp (disch := first | (simp only [go_sem, Bool.and_self, eq_self]; done) | omega | (simp only [List.length_cons, List.length_nil]; omega)) only [go_sem, ↓reduceIte, Nat.reduceEqDiff, Nat.reduceAdd, Nat.reduceMul, Nat.reduceSub, Int.reduceToNat, Nat.reduceBEq, List.size_toArray, List.length_cons, List.length_nil, Bool.false_and, Bool.true_and, Bool.or_false, Bool.false_or, Bool.and_false, Bool.and_true, s0], by simp (disch := first | (simp only [go_sem, Bool.and_self, eq_self]; done) | omega | (simp only [List.length_cons, List.length_nil]; omega)) only [go_sem, ↓reduceIte, Nat.reduceEqDiff, Nat.reduceAdd, Nat.reduceMul, Nat.reduceSub, Int.reduceToNat, Nat.reduceBEq, List.size_toArray, List.length_cons, List.length_nil, Bool.false_and, Bool.true_and, Bool.or_false, Bool.false_or, Bool.and_false, Bool.and_true, s1], by simp (disch := first | (simp only [go_sem, Bool.and_self, eq_self]; done) | omega | (simp only [List.length_cons, List.length_nil]; omega)) only [go_sem, ↓reduceIte, Nat.reduceEqDiff, Nat.reduceAdd, Nat.reduceMul, Nat.reduceSub, Int.reduceToNat, Nat.reduceBEq, List.size_toArray, List.length_cons, List.length_nil, Bool.false_and, Bool.true_and, Bool.or_false, Bool.false_or, Bool.and_false, Bool.and_true, s2], by simp (disch := first | (simp only [go_sem, Bool.and_self, eq_self]; done) | omega | (simp only [List.length_cons, List.length_nil]; omega)) only [go_sem, ↓reduceIte, Nat.reduceEqDiff, Nat.reduceAdd, Nat.reduceMul, Nat.reduceSub, Int.reduceToNat, Nat.reduceBEq, List.size_toArray, List.length_cons, List.length_nil, Bool.false_and, Bool.true_and, Bool.or_false, Bool.false_or, Bool.and_false, Bool.and_true, s3], by simp (disch := first | (simp only [go_sem, Bool.and_self, eq_self]; done) | omega | (simp only [List.length_cons, List.length_nil]; omega)) only [go_sem, ↓reduceIte, Nat.reduceEqDiff, Nat.reduceAdd, Nat.reduceMul, Nat.reduceSub, Int.reduceToNat, Nat.reduceBEq, List.size_toArray, List.length_cons, List.length_nil, Bool.false_and, Bool.true_and, Bool.or_false, Bool.false_or, Bool.and_false, Bool.and_true, s4], by simp (disch := first | (simp only [go_sem, Bool.and_self, eq_self]; done) | omega | (simp only [List.length_cons, List.length_nil]; omega)) only [go_sem, ↓reduceIte, Nat.reduceEqDiff, Nat.reduceAdd, Nat.reduceMul, Nat.reduceSub, Int.reduceToNat, Nat.reduceBEq, List.size_toArray, List.length_cons, List.length_nil, Bool.false_and, Bool.true_and, Bool.or_false, Bool.false_or, Bool.and_false, Bool.and_true, s5], xs2, hp2, hg2⟩
      · have hg2 := skip (by simp [okv, hφ, hy])
        simp (disch := first | (simp only [go_sem, Bool.and_self, eq_self]; done) | omega | (simp only [List.length_cons, List.length_nil]; omega)) only [go_sem, ↓reduceIte, Nat.reduceEqDiff, Nat.reduceAdd, Nat.reduceMul, Nat.reduceSub, Int.reduceToNat, Nat.reduceBEq, List.size_toArray, List.length_cons, List.length_nil, Bool.false_and, Bool.true_and, Bool.or_false, Bool.false_or, Bool.and_false, Bool.and_true, s0, s1, s2, s3, s4, s5, s17, hk2, hbM, hlk, hy, hbX, hbS, hSX, hxl, hi10]
        rw [ForK_normal]
        exact ⟨by omega, by simp (disch := first | (simp only [go_sem, Bool.and_self, eq_self]; done) | omega | (simp only [List.length_cons, List.length_nil]; omega)) only [go_sem, ↓reduceIte, Nat.reduceEqDiff, Nat.reduceAdd, Nat.reduceMul, Nat.reduceSub, Int.reduceToNat, Nat.reduceBEq, List.size_toArray, List.length_cons, List.length_nil, Bool.false_and, Bool.true_and, Bool.or_false, Bool.false_or, Bool.and_false, Bool.and_true, s17], by simp (disch := first | (simp only [go_sem, Bool.and_self, eq_self]; done) | omega | (simp only [List.length_cons, List.length_nil]; omega)) only [go_sem, ↓reduceIte, Nat.reduceEqDiff, Nat.reduceAdd, Nat.reduceMul, Nat.reduceSub, Int.reduceToNat, Nat.reduceBEq, List.size_toArray, List.length_cons, List.length_nil, Bool.false_and, Bool.true_and, Bool.or_false, Bool.false_or, Bool.and_false, Bool.and_true, s0], by simp (disch := first | (simp only [go_sem, Bool.and_self, eq_self]; done) | omega | (simp only [List.length_cons, List.length_nil]; omega)) only [go_sem, ↓reduceIte, Nat.reduceEqDiff, Nat.reduceAdd, Nat.reduceMul, Nat.reduceSub, Int.reduceToNat, Nat.reduceBEq, List.size_toArray, List.length_cons, List.length_nil, Bool.false_and, Bool.true_and, Bool.or_false, Bool.false_or, Bool.and_false, Bool.and_true, s1], by simp (disch := first | (simp only [go_sem, Bool.and_self, eq_self]; done) | omega | (simp only [List.length_cons, List.length_nil]; omega)) only [go_sem, ↓reduceIte, Nat.reduceEqDiff, Nat.reduceAdd, Nat.reduceMul, Nat.reduceSub, Int.reduceToNat, Nat.reduceBEq, List.size_toArray, List.length_cons, List.length_nil, Bool.false_and, Bool.true_and, Bool.or_false, Bool.false_or, Bool.and_false, Bool.and_true, s2], by simp (disch := first | (simp only [go_sem, Bool.and_self, eq_self]; done) | omega | (simp only [List.length_cons, List.length_nil]; omega)) only [go_sem, ↓reduceIte, Nat.reduceEqDiff, Nat.reduceAdd, Nat.reduceMul, Nat.reduceSub, Int.reduceToNat, Nat.reduceBEq, List.size_toArray, List.length_cons, List.length_nil, Bool.false_and, Bool.true_and, Bool.or_false, Bool.false_or, Bool.and_false, Bool.and_true, s3], by simp (disch := first | (simp only [go_sem, Bool.and_self, eq_self]; done) | omega | (simp only [List.length_cons, List.length_nil]; omega)) only [go_sem, ↓reduceIte, Nat.reduceEqDiff, Nat.reduceAdd, Nat.reduceMul, Nat.reduceSub, Int.reduceToNat, Nat.reduceBEq, List.size_toArray, List.length_cons, List.length_nil, Bool.false_and, Bool.true_and, Bool.or_false, Bool.false_or, Bool.and_false, Bool.and_true, s4], by simp (disch := first | (simp only [go_sem, Bool.and_self, eq_self]; done) | omega | (simp only [List.length_cons, List.length_nil]; omega)) only [go_sem, ↓reduceIte, Nat.reduceEqDiff, Nat.reduceAdd, Nat.reduceMul, Nat.reduceSub, Int.reduceToNat, Nat.reduceBEq, List.size_toArray, List.length_cons, List.length_nil, Bool.false_and, Bool.true_and, Bool.or_false, Bool.false_or, Bool.and_false, Bool.and_true, s5], xs, hpre, hg2⟩

end Go.Proofs.Ytpkakapbepkfdaa

set_option linter.unusedVariables false
set_option linter.unusedSimpArgs false
set_option maxRecDepth 10000
namespace Go.Proofs.Ytpkakapbepkfdaa
open Go Go.Am

variable {h h' : Hp} {K : AV → Hp → Prop}

theorem vis_len (φ : Int → Option Int) : ∀ (m : Nat) (pre : List Int), (vis φ m pre).length ≤ 2 ^ m
  | 0, pre => by simp [vis]
  | m + 1, pre => by
    have h1 := vis_len φ m (pre ++ [0])
    have h2 := vis_len φ m (pre ++ [1])
    simp only [vis, List.length_append, Nat.pow_succ]
    split <;> split <;> simp <;> omega
theorem vis_mem (φ : Int → Option Int) : ∀ (m : Nat) (pre w : List Int), w ∈ vis φ m pre → (∀ j, j < pre.length → nth pre j = 0 ∨ nth pre j = 1) → w.length = pre.length + m ∧ ∀ j, j < w.length → nth w j = 0 ∨ nth w j = 1
  | 0, pre, w, hw, hp => by
    simp only [vis, List.mem_singleton] at hw
    subst hw; exact ⟨rfl, hp⟩
  | m + 1, pre, w, hw, hp => by
    simp only [vis, List.mem_append] at hw
    have snoc : ∀ x : Int, x = 0 ∨ x = 1 → ∀ j, j < (pre ++ [x]).length → nth (pre ++ [x]) j = 0 ∨ nth (pre ++ [x]) j = 1 := by
      intro x hx j hj
      simp only [List.length_append, List.length_singleton] at hj
      by_cases he : j < pre.length
      · rw [nth_append_left _ _ _ he]; exact hp j he
      · rw [show j = pre.length by omega, nth, List.getElem?_append_right (Nat.le_refl _)]; simpa using hx
    rcases hw with hw | hw
    · split at hw
      · have := vis_mem φ m _ w hw (snoc 0 (.inl rfl))
        simp only [List.length_append, List.length_singleton] at this
        exact ⟨by omega, this.2⟩
      · cases hw
    · split at hw
      · have := vis_mem φ m _ w hw (snoc 1 (.inr rfl))
        simp only [List.length_append, List.length_singleton] at this
        exact ⟨by omega, this.2⟩
      · cases hw

theorem f64_shr {p t : List (List Int)} {n g : Nat} {caps : List AV} {mapv : AV} {φ : Int → Option Int} {G : List (List Int) → List Int → Hp → Prop} {H : Hp}
    (E : Env p t n H.nx (H.nx + 2) (H.nx + 3) (H.nx + 1) (H.nx + 4) g caps mapv φ (vis φ n []) G) (hn : n ≤ 10)
    (hal : ∀ g : Hp, allocB g (some mapv) = some (.ptr g.nx 0, g.alloc (.cells false false [mapv])))
    (hG : ∀ h5 : Hp, h5.nx = H.nx + 5 → (∀ id, id < H.nx → h5.bl id = H.bl id) → h5.bl H.nx = some (.cells false false [LLI p, LLI t, I n]) → h5.bl (H.nx + 1) = some (.cells false false [mapv]) → h5.bl (H.nx + 2) = some (.cells false false [.fn g caps]) →
      h5.bl (H.nx + 3) = some (.cells false false ((List.replicate 10 (0 : Int)).flatMap (e1 I))) → h5.bl (H.nx + 4) = some (.cells false false [.fn 77 [.ptr H.nx 0, .ptr (H.nx + 2) 0, .ptr (H.nx + 3) 0, .ptr (H.nx + 1) 0, .ptr (H.nx + 4) 0]]) → G [] (List.replicate 10 0) h5) :
    ∃ h', Shr Try.prog cfg 64 [.agg [LLI p, LLI t, I n], mapv, .fn g caps] H (.tup []) h' ∧ ∃ xs', G (vis φ n []) xs' h' := by
  suffices hh : ∃ v h', Shr Try.prog cfg 64 [.agg [LLI p, LLI t, I n], mapv, .fn g caps] H v h' ∧ (v = .tup [] ∧ ∃ xs', G (vis φ n []) xs' h') by
    obtain ⟨v, h', hs, rfl, r⟩ := hh
    exact ⟨h', hs, r⟩
  have hal2 : ∀ g' : Hp, allocB g' (some (.fn g caps)) = some (.ptr g'.nx 0, g'.alloc (.cells false false [.fn g caps])) := fun _ => rfl
  have hal3 := fun h => allocB_flat (h := h) (List.replicate 10 (0 : Int))
  let h5 : Hp := (((((H.alloc (.cells false false [LLI p, LLI t, I n])).alloc (.cells false false [mapv])).alloc (.cells false false [.fn g caps])).alloc (.cells false false ((List.replicate 10 (0 : Int)).flatMap (e1 I)))).alloc (.cells false false [.nilfn])).put (H.nx + 4) (some (.cells false false [.fn 77 [.ptr H.nx 0, .ptr (H.nx + 2) 0, .ptr (H.nx + 3) 0, .ptr (H.nx + 1) 0, .ptr (H.nx + 4) 0]]))
  have hg : G [] (List.replicate 10 0) h5 := by
    refine hG h5 rfl (fun id hid => ?_) ?_ ?_ ?_ ?_ ?_
    · simp [h5, Hp.put, Hp.alloc, show id ≠ H.nx by omega, show id ≠ H.nx + 1 by omega, show id ≠ H.nx + 2 by omega, show id ≠ H.nx + 3 by omega, show id ≠ H.nx + 4 by omega]
    · simp [h5, Hp.put, Hp.alloc, show ¬ H.nx = H.nx + 1 + 1 + 1 + 1 by omega, show ¬ H.nx = H.nx + 1 + 1 + 1 by omega, show ¬ H.nx = H.nx + 1 + 1 by omega]
    · simp [h5, Hp.put, Hp.alloc]
    · simp [h5, Hp.put, Hp.alloc]
    · simp [h5, Hp.put, Hp.alloc]
    · simp [h5, Hp.put, Hp.alloc]
  obtain ⟨h', hs, xs', _, hg'⟩ := f77_shr E hn n 0 [] (List.replicate 10 0) [] h5 rfl (by omega) ⟨by simp, fun j h1 h2 => by rw [nth, List.getElem?_replicate]; split <;> rfl⟩ (by simp) hg
  have hc := fun K => CallW_shr (K := K) 77 _ shr77 hs
  refine Shr_intro Try.func64 rfl ok64 (Nat.le_of_ble_eq_true rfl) ?_
  simp only [Try.f64, Option.getD_some, initSt3]
  simp (disch := first | (simp only [go_sem, Bool.and_self, eq_self]; done) | omega | (simp only [List.length_cons, List.length_nil]; omega)) only [go_sem, ↓reduceIte, Nat.reduceEqDiff, Nat.reduceAdd, Nat.reduceMul, Nat.reduceSub, Int.reduceToNat, Nat.reduceBEq, List.size_toArray, List.length_cons, List.length_nil, Bool.false_and, Bool.true_and, Bool.or_false, Bool.false_or, Bool.and_false, Bool.and_true, hal, hal2, z10, hal3]
  refine Eq.mpr (hc _) ?_
  simp (disch := first | (simp only [go_sem, Bool.and_self, eq_self]; done) | omega | (simp only [List.length_cons, List.length_nil]; omega)) only [go_sem, ↓reduceIte, Nat.reduceEqDiff, Nat.reduceAdd, Nat.reduceMul, Nat.reduceSub, Int.reduceToNat, Nat.reduceBEq, List.size_toArray, List.length_cons, List.length_nil, Bool.false_and, Bool.true_and, Bool.or_false, Bool.false_or, Bool.and_false, Bool.and_true]
  exact ⟨xs', hg'⟩

/-- The weights of a list of rows, together. -/
def sumW (p t : List (List Int)) (d : List (List Int)) : Int := (d.map fun w => weightB p t w p.length).sum
theorem sumW_snoc (p t : List (List Int)) (d : List (List Int)) (w : List Int) : sumW p t (d ++ [w]) = sumW p t d + weightB p t w p.length := by simp [sumW]
theorem sumW_bounds {p t : List (List Int)} (N : Net p t) : ∀ (d : List (List Int)), 0 ≤ sumW p t d ∧ sumW p t d ≤ d.length * 1099511627776
  | [] => by simp [sumW]
  | w :: d => by
    have h1 := sumW_bounds N d
    have h2 := weight_bounds N w (Nat.le_refl _)
    have h3 := pow16_le (Nat.le_refl p.length) N.n1.2
    simp only [sumW, List.map_cons, List.sum_cons, List.length_cons] at h1 ⊢
    omega

/-- The memory of 'sum' after some visits. -/
structure SumG (p t : List (List Int)) (n : Nat) (mapv : AV) (d : List (List Int)) (xs : List Int) (h : Hp) : Prop where
  nx : 7 ≤ h.nx
  len : xs.length = 10
  b0 : h.bl 0 = some (.cells false false [LLI p, LLI t, I n])
  b1 : h.bl 1 = some (.cells false false [I (sumW p t d)])
  b2 : h.bl 2 = some (.cells false false [LLI p, LLI t, I n])
  b3 : h.bl 3 = some (.cells false false [mapv])
  b4 : h.bl 4 = some (.cells false false [.fn 73 [.ptr 1 0, .ptr 0 0]])
  b5 : h.bl 5 = some (.cells false false (xs.flatMap (e1 I)))
  b6 : h.bl 6 = some (.cells false false [.fn 77 [.ptr 2 0, .ptr 4 0, .ptr 5 0, .ptr 3 0, .ptr 6 0]])

theorem vis_bits {φ : Int → Option Int} {n : Nat} {w : List Int} (hw : w ∈ vis φ n []) : w.length = n ∧ ∀ j, j < n → nth w j = 0 ∨ nth w j = 1 := by
  obtain ⟨h1, h2⟩ := vis_mem φ n [] w hw (fun j hj => by simp at hj)
  simp only [List.length_nil, Nat.zero_add] at h1
  exact ⟨h1, fun j hj => h2 j (by omega)⟩
theorem sumEnv {p t : List (List Int)} (N : Net p t) (mapv : AV) (φ : Int → Option Int)
    (hlk : ∀ (b : Option Blk) (k : Int), lookB (some (.map 3 3)) (some (.int .i64)) (some (I 0)) mapv b true (I k) true = some (.tup [I ((φ k).getD 0), .bool (φ k).isSome])) :
    Env p t p.length 2 4 5 3 6 73 [.ptr 1 0, .ptr 0 0] mapv φ (vis φ p.length []) (SumG p t p.length mapv) := by
  refine ⟨fun g => g.len, fun g => g.b2, fun g => g.b4, fun g => g.b5, fun g => g.b3, fun g => g.b6, fun g k => hlk _ k, fun {d xs h} g i v hi => ?_, rfl, fun {d xs h} g w hw hx hT => ?_⟩
  · exact ⟨g.nx, by simpa using g.len, by simpa [Hp.put] using g.b0, by simpa [Hp.put] using g.b1, by simpa [Hp.put] using g.b2, by simpa [Hp.put] using g.b3, by simpa [Hp.put] using g.b4, by simp [Hp.put], by simpa [Hp.put] using g.b6⟩
  · suffices hh : ∃ v h', Shr Try.prog cfg 73 [.agg (xs.flatMap (e1 I)), .ptr 1 0, .ptr 0 0] h v h' ∧ (v = .tup [] ∧ SumG p t p.length mapv (d ++ [w]) xs h') by
      obtain ⟨v, h', hs, rfl, r⟩ := hh
      exact ⟨h', hs, r⟩
    have hmem : w ∈ vis φ p.length [] := by
      obtain ⟨r, hr⟩ := hT
      rw [← hr]; simp
    obtain ⟨hwl, hwb⟩ := vis_bits hmem
    have hdl : d.length < 1024 := by
      obtain ⟨r, hr⟩ := hT
      have h1 := congrArg List.length hr
      have h2 := vis_len φ p.length []
      have h3 : 2 ^ p.length ≤ 2 ^ 10 := Nat.pow_le_pow_right (by decide) N.n1.2
      simp only [List.length_append, List.length_singleton] at h1
      omega
    have hn1 := N.n1
    have hxl := g.len
    have hvals : Vals xs p.length := ⟨hxl, fun i hi => by rw [hx, ten_nth (by omega)]; exact hwb i hi⟩
    have kw := fun h h' K => k51 (h := h) (h' := h') (K := K) p t N xs hvals
    have hwx : weightB p t xs p.length = weightB p t w p.length := weight_congr N fun k hk => by rw [hx, ten_nth (by omega)]
    rw [hwx] at kw
    obtain ⟨s1, s2⟩ := sumW_bounds N d
    obtain ⟨w1, w2⟩ := weight_bounds N w (Nat.le_refl p.length)
    have w3 := pow16_le (Nat.le_refl p.length) N.n1.2
    have hal := fun h => allocB_flat (h := h) xs
    have hld := loadC_flat xs hxl
    have hb0 := g.b0
    have hb1 := g.b1
    have hnx := g.nx
    have n0 : ¬ 0 = h.nx := by omega
    have n1 : ¬ 1 = h.nx := by omega
    refine Shr_intro Try.func73 rfl ok73 (Nat.le_of_ble_eq_true rfl) ?_
    simp only [Try.f73, Option.getD_some, initSt3]
    simp (disch := first | (simp only [go_sem, Bool.and_self, eq_self]; done) | omega | (simp only [List.length_cons, List.length_nil]; omega)) only [go_sem, ↓reduceIte, Nat.reduceEqDiff, Nat.reduceAdd, Nat.reduceMul, Nat.reduceSub, Int.reduceToNat, Nat.reduceBEq, List.size_toArray, List.length_cons, List.length_nil, Bool.false_and, Bool.true_and, Bool.or_false, Bool.false_or, Bool.and_false, Bool.and_true, hal, hld, hb0, hb1, n0, n1, kw]
    have hbl : ∀ k, k < 7 → k ≠ 1 → (((h.alloc (.cells false false (xs.flatMap (e1 I)))).put 1 (some (.cells false false [AV.int IntKind.i64 (sumW p t d + weightB p t w p.length)]))).bl k = h.bl k) := by
      intro k h1 h2
      simp [Hp.put, Hp.alloc, h2, show ¬ k = h.nx by omega]
    refine ⟨by show 7 ≤ h.nx + 1; omega, hxl, (hbl 0 (by omega) (by omega)).trans g.b0, ?_, (hbl 2 (by omega) (by omega)).trans g.b2, (hbl 3 (by omega) (by omega)).trans g.b3, (hbl 4 (by omega) (by omega)).trans g.b4,
      (hbl 5 (by omega) (by omega)).trans g.b5, (hbl 6 (by omega) (by omega)).trans g.b6⟩
    rw [sumW_snoc]; rfl

/-- The values that a map gives. -/
def phi (es : List (Int × Int)) (k : Int) : Option Int := match es with
  | [] => none
  | (j, v) :: es => if k = j then some v else phi es k
theorem findK_phi (es : List (Int × Int)) (k : Int) : findK k (entF es) = (phi es k).map I := by
  induction es with
  | nil => rfl
  | cons p es ih =>
    obtain ⟨j, v⟩ := p
    simp only [entF, List.map_cons, findK, phi] at ih ⊢
    split
    · rfl
    · exact ih
abbrev mvE (es : List (Int × Int)) : AV := .mv ((entF es).map (·.1)) ((entF es).map (·.2))
theorem lk_phi (es : List (Int × Int)) (b : Option Blk) (k : Int) : lookB (some (.map 3 3)) (some (.int .i64)) (some (I 0)) (mvE es) b true (I k) true = some (.tup [I ((phi es k).getD 0), .bool (phi es k).isSome]) := by
  rw [lookB_mv _ _ _ _ _ _ _ _ _ rfl, findK_phi]
  cases phi es k <;> rfl

def sumB (p t : List (List Int)) (es : List (Int × Int)) : Int := sumW p t (vis (phi es) p.length [])
theorem sumB_bounds {p t : List (List Int)} (N : Net p t) (es : List (Int × Int)) : 0 ≤ sumB p t es ∧ sumB p t es ≤ 1125899906842624 := by
  have h1 := sumW_bounds N (vis (phi es) p.length [])
  have h2 := vis_len (phi es) p.length []
  have h3 : 2 ^ p.length ≤ 2 ^ 10 := Nat.pow_le_pow_right (by decide) N.n1.2
  unfold sumB; omega
theorem f55_con (p t : List (List Int)) (N : Net p t) (es : List (Int × Int)) : Con Try.prog cfg 55 [.agg [LLI p, LLI t, I p.length], mvE es] (I (sumB p t es)) := by
  have hal : ∀ g : Hp, allocB g (some (mvE es)) = some (.ptr g.nx 0, g.alloc (.cells false false [mvE es])) := fun _ => rfl
  let H : Hp := (((Hp.empty.alloc (.cells false false [LLI p, LLI t, I p.length])).alloc (.cells false false [I 0])).put 1 (some (.cells false false [I 0])))
  obtain ⟨h', hs, xs', hg⟩ := f64_shr (H := H) (sumEnv N (mvE es) (phi es) (lk_phi es)) N.n1.2 hal (fun h5 g1 g2 g3 g4 g5 g6 g7 => by
    refine ⟨by rw [g1]; show 7 ≤ 2 + 5; omega, rfl, (g2 0 (by show 0 < 2; omega)).trans (by simp [H, Hp.put, Hp.alloc, Hp.empty]), (g2 1 (by show 1 < 2; omega)).trans (by simp [H, Hp.put, sumW]), g3, g4, g5, g6, g7⟩)
  have hc := fun K => CallW_shr (K := K) 64 _ shr64 hs
  have hb1 := hg.b1
  refine Con_intro Try.func55 rfl ok55 (Nat.le_of_ble_eq_true rfl) rfl ?_
  simp only [Try.f55, Option.getD_some, initSt2]
  simp (disch := first | (simp only [go_sem, Bool.and_self, eq_self]; done) | omega | (simp only [List.length_cons, List.length_nil]; omega)) only [go_sem, ↓reduceIte, Nat.reduceEqDiff, Nat.reduceAdd, Nat.reduceMul, Nat.reduceSub, Int.reduceToNat, Nat.reduceBEq, List.size_toArray, List.length_cons, List.length_nil, Bool.false_and, Bool.true_and, Bool.or_false, Bool.false_or, Bool.and_false, Bool.and_true]
  refine Eq.mpr (hc _) ?_
  simp (disch := first | (simp only [go_sem, Bool.and_self, eq_self]; done) | omega | (simp only [List.length_cons, List.length_nil]; omega)) only [go_sem, ↓reduceIte, Nat.reduceEqDiff, Nat.reduceAdd, Nat.reduceMul, Nat.reduceSub, Int.reduceToNat, Nat.reduceBEq, List.size_toArray, List.length_cons, List.length_nil, Bool.false_and, Bool.true_and, Bool.or_false, Bool.false_or, Bool.and_false, Bool.and_true, hb1]
  rfl
theorem k55 (p t : List (List Int)) (N : Net p t) (es : List (Int × Int)) : ConW Try.prog cfg 55 h (some ([.agg [LLI p, LLI t, I p.length], mvE es], h')) K = K (I (sumB p t es)) h := ConW_num (f55_con p t N es) rfl

end Go.Proofs.Ytpkakapbepkfdaa

set_option linter.unusedVariables false
set_option linter.unusedSimpArgs false
set_option maxRecDepth 10000
namespace Go.Proofs.Ytpkakapbepkfdaa
open Go Go.Am

variable {h h' : Hp} {K : AV → Hp → Prop}

theorem CallW_shrE {g : FuncId} {args : List AV} {Q : AV → Hp → Prop} (hs : cfg.shared g = true) (he : ∃ v h', Shr Try.prog cfg g args h v h' ∧ Q v h') (hk : ∀ v h', Q v h' → K v h') : CallW Try.prog cfg g args h K := by
  obtain ⟨v, h', hsh, q⟩ := he
  rw [CallW_shr g args hs hsh]
  exact hk v h' q

theorem phi_append (es fs : List (Int × Int)) (k : Int) : phi (es ++ fs) k = (phi es k).or (phi fs k) := by
  induction es with
  | nil => simp [phi]
  | cons q es ih =>
    obtain ⟨j, v⟩ := q
    simp only [List.cons_append, phi]
    split
    · rfl
    · exact ih
/-- A fact that goes against the given ones. -/
def clashB (g f : List (Int × Int)) : Bool := f.any fun q => match phi g q.1 with | some y => !decide (y = q.2) | none => false
def chanceR (p t : List (List Int)) (f g : List (Int × Int)) : AV :=
  if netB p t && (factsB p.length f && factsB p.length g) then
    if sumB p t g = 0 then .tup [.agg [I 0, I 0], I 6]
    else if clashB g f then .tup [.agg [I 0, I 1], I 0]
    else .tup [redu (sumB p t (g ++ f)) (sumB p t g), I 0]
  else .tup [.agg [I 0, I 0], I 2]

theorem facts_keys {n : Int} {fs : List (Int × Int)} (h : factsB n fs = true) {i j : Nat} (hi : i < fs.length) (hj : j < fs.length) (he : (nth fs i).1 = (nth fs j).1) : i = j := by
  have key : ∀ i j, i < fs.length → j < i → (nth fs i).1 ≠ (nth fs j).1 := by
    intro i j hi hji he
    have := range_all h hi
    simp only [factB, Bool.and_eq_true] at this
    have h2 := range_all this.2 hji
    simp [he] at h2
  rcases Nat.lt_trichotomy i j with h1 | h1 | h1
  · exact absurd he.symm (key j i hj h1)
  · exact h1
  · exact absurd he (key i j hi h1)
theorem facts_phi {n : Int} {fs : List (Int × Int)} (h : factsB n fs = true) {k v : Int} (hm : (k, v) ∈ fs) : phi fs k = some v := by
  obtain ⟨i, hi, he⟩ := List.getElem_of_mem hm
  have key : ∀ (l : List (Int × Int)), (∀ q ∈ l, q.1 = k → q.2 = v) → (∃ q ∈ l, q.1 = k) → phi l k = some v := by
    intro l
    induction l with
    | nil => rintro _ ⟨q, hq, _⟩; cases hq
    | cons q l ih =>
      intro h1 h2
      obtain ⟨j, u⟩ := q
      simp only [phi]
      split
      · rename_i hkj
        have := h1 (j, u) List.mem_cons_self hkj.symm
        simp at this; rw [this]
      · rename_i hkj
        refine ih (fun q hq => h1 q (List.mem_cons_of_mem _ hq)) ?_
        obtain ⟨q, hq, hk⟩ := h2
        rcases List.mem_cons.1 hq with rfl | hq
        · exact absurd hk.symm hkj
        · exact ⟨q, hq, hk⟩
  refine key fs (fun q hq hk => ?_) ⟨(k, v), hm, rfl⟩
  obtain ⟨j, hj, he2⟩ := List.getElem_of_mem hq
  have : j = i := facts_keys h hj hi (by rw [nth_getElem hj, nth_getElem hi, he2, he]; exact hk)
  subst this
  rw [he] at he2
  rw [← he2]
theorem phi_mem {fs : List (Int × Int)} {k v : Int} (h : phi fs k = some v) : (k, v) ∈ fs := by
  induction fs with
  | nil => cases h
  | cons q l ih =>
    obtain ⟨j, u⟩ := q
    simp only [phi] at h
    split at h
    · rename_i hkj; cases h; rw [hkj]; exact List.mem_cons_self
    · exact List.mem_cons_of_mem _ (ih h)

theorem hext0 : ExtOk Try.prog cfg := fun _ _ _ h => by cases h

attribute [local irreducible] Go.Am.Sem
set_option maxHeartbeats 1000000 in
theorem f23_pure (p t : List (List Int)) (f g : List (Int × Int)) (hp : okLL p) (ht : okLL t) (hf : f.length ≤ maxLen) (hg : g.length ≤ maxLen) : PureOk Try.prog 23 [.agg [LLI p, LLI t], LP f, LP g] (chanceR p t f g) := by
  have kn := fun h h' K => k46 (h := h) (h' := h') (K := K) p t hp ht
  have n20 : ¬ (2 : Int) = 0 := by decide
  refine PureOk.of_Sem (ow := false) (kn := false) (body := Try.f23.body.getD .skip) Try.func23 rfl rfl (Nat.le_of_ble_eq_true rfl) ?_
  simp only [Try.f23, Option.getD_some, initSt3]
  refine Sem.seqW hext0 (by kernel_rfl) ?_
  simp (disch := first | (simp only [go_sem, Bool.and_self, eq_self]; done) | omega | (simp only [List.length_cons, List.length_nil]; omega)) only [go_sem, ↓reduceIte, Nat.reduceEqDiff, Nat.reduceAdd, Nat.reduceMul, Nat.reduceSub, Int.reduceToNat, Nat.reduceBEq, List.size_toArray, List.length_cons, List.length_nil, Bool.false_and, Bool.true_and, Bool.or_false, Bool.false_or, Bool.and_false, Bool.and_true]
  refine Sem.seqW hext0 (by kernel_rfl) ?_
  cases h1 : netB p t with
  | false =>
    have hr : chanceR p t f g = .tup [.agg [I 0, I 0], I 2] := by simp [chanceR, h1]
    simp (disch := first | (simp only [go_sem, Bool.and_self, eq_self]; done) | omega | (simp only [List.length_cons, List.length_nil]; omega)) only [go_sem, ↓reduceIte, Nat.reduceEqDiff, Nat.reduceAdd, Nat.reduceMul, Nat.reduceSub, Int.reduceToNat, Nat.reduceBEq, List.size_toArray, List.length_cons, List.length_nil, Bool.false_and, Bool.true_and, Bool.or_false, Bool.false_or, Bool.and_false, Bool.and_true, kn, netR_f h1]
    refine Sem.seqW hext0 (by kernel_rfl) ?_
    simp (disch := first | (simp only [go_sem, Bool.and_self, eq_self]; done) | omega | (simp only [List.length_cons, List.length_nil]; omega)) only [go_sem, ↓reduceIte, Nat.reduceEqDiff, Nat.reduceAdd, Nat.reduceMul, Nat.reduceSub, Int.reduceToNat, Nat.reduceBEq, List.size_toArray, List.length_cons, List.length_nil, Bool.false_and, Bool.true_and, Bool.or_false, Bool.false_or, Bool.and_false, Bool.and_true, n20, hr]
  | true =>
  have N := Net.of h1
  have hn1 := N.n1
  simp (disch := first | (simp only [go_sem, Bool.and_self, eq_self]; done) | omega | (simp only [List.length_cons, List.length_nil]; omega)) only [go_sem, ↓reduceIte, Nat.reduceEqDiff, Nat.reduceAdd, Nat.reduceMul, Nat.reduceSub, Int.reduceToNat, Nat.reduceBEq, List.size_toArray, List.length_cons, List.length_nil, Bool.false_and, Bool.true_and, Bool.or_false, Bool.false_or, Bool.and_false, Bool.and_true, kn, netR_t h1]
  refine Sem.seqW hext0 (by kernel_rfl) ?_
  simp (disch := first | (simp only [go_sem, Bool.and_self, eq_self]; done) | omega | (simp only [List.length_cons, List.length_nil]; omega)) only [go_sem, ↓reduceIte, Nat.reduceEqDiff, Nat.reduceAdd, Nat.reduceMul, Nat.reduceSub, Int.reduceToNat, Nat.reduceBEq, List.size_toArray, List.length_cons, List.length_nil, Bool.false_and, Bool.true_and, Bool.or_false, Bool.false_or, Bool.and_false, Bool.and_true]
  refine Sem.seqW hext0 (by kernel_rfl) ?_
  simp (disch := first | (simp only [go_sem, Bool.and_self, eq_self]; done) | omega | (simp only [List.length_cons, List.length_nil]; omega)) only [go_sem, ↓reduceIte, Nat.reduceEqDiff, Nat.reduceAdd, Nat.reduceMul, Nat.reduceSub, Int.reduceToNat, Nat.reduceBEq, List.size_toArray, List.length_cons, List.length_nil, Bool.false_and, Bool.true_and, Bool.or_false, Bool.false_or, Bool.and_false, Bool.and_true]
  refine CallW_shrE shr54 (f54_shr p t p.length (by omega) f hf _) ?_
  rintro v hA ⟨nA, fA, cA⟩
  have a1 := fA 1 (by show 1 < 3; omega)
  have a2 := fA 2 (by show 2 < 3; omega)
  simp (disch := first | (simp only [go_sem, Bool.and_self, eq_self]; done) | omega | (simp only [List.length_cons, List.length_nil]; omega)) only [go_sem, ↓reduceIte, Nat.reduceEqDiff, Nat.reduceAdd, Nat.reduceMul, Nat.reduceSub, Int.reduceToNat, Nat.reduceBEq, List.size_toArray, List.length_cons, List.length_nil, Bool.false_and, Bool.true_and, Bool.or_false, Bool.false_or, Bool.and_false, Bool.and_true] at a1 a2 nA cA
  clear fA
  have en : ∀ (v : AV) (b : Bool), True := fun _ _ => trivial
  have hvA : ∃ m b, v = .tup [m, .bool b] ∧ b = factsB p.length f ∧ (b = true → m = .mp 4 ∧ 4 < hA.nx ∧ hA.bl 4 = some (.mp false (entF f))) := by
    rcases cA with ⟨q1, q2, q3, q4⟩ | ⟨q1, q2⟩
    · exact ⟨_, _, q2, q1.symm, fun _ => ⟨rfl, q3, q4⟩⟩
    · exact ⟨_, _, q2, q1.symm, fun h => by cases h⟩
  clear cA
  obtain ⟨mA, bA, rfl, hbA, cA⟩ := hvA
  simp (disch := first | (simp only [go_sem, Bool.and_self, eq_self]; done) | omega | (simp only [List.length_cons, List.length_nil]; omega)) only [go_sem, ↓reduceIte, Nat.reduceEqDiff, Nat.reduceAdd, Nat.reduceMul, Nat.reduceSub, Int.reduceToNat, Nat.reduceBEq, List.size_toArray, List.length_cons, List.length_nil, Bool.false_and, Bool.true_and, Bool.or_false, Bool.false_or, Bool.and_false, Bool.and_true]
  refine Sem.seqW hext0 (by kernel_rfl) ?_
  simp (disch := first | (simp only [go_sem, Bool.and_self, eq_self]; done) | omega | (simp only [List.length_cons, List.length_nil]; omega)) only [go_sem, ↓reduceIte, Nat.reduceEqDiff, Nat.reduceAdd, Nat.reduceMul, Nat.reduceSub, Int.reduceToNat, Nat.reduceBEq, List.size_toArray, List.length_cons, List.length_nil, Bool.false_and, Bool.true_and, Bool.or_false, Bool.false_or, Bool.and_false, Bool.and_true, a2]
  refine CallW_shrE shr54 (f54_shr p t p.length (by omega) g hg hA) ?_
  rintro v hB ⟨nB, fB, cB⟩
  have b1 := (fB 1 (by omega)).trans a1
  have b2 := (fB 2 (by omega)).trans a2
  have hvB : ∃ m b, v = .tup [m, .bool b] ∧ b = factsB p.length g ∧ (b = true → m = .mp (hA.nx + 1) ∧ hA.nx + 1 < hB.nx ∧ hB.bl (hA.nx + 1) = some (.mp false (entF g))) := by
    rcases cB with ⟨q1, q2, q3, q4⟩ | ⟨q1, q2⟩
    · exact ⟨_, _, q2, q1.symm, fun _ => ⟨rfl, q3, q4⟩⟩
    · exact ⟨_, _, q2, q1.symm, fun h => by cases h⟩
  clear cB
  obtain ⟨mB, bB, rfl, hbB, cB⟩ := hvB
  simp (disch := first | (simp only [go_sem, Bool.and_self, eq_self]; done) | omega | (simp only [List.length_cons, List.length_nil]; omega)) only [go_sem, ↓reduceIte, Nat.reduceEqDiff, Nat.reduceAdd, Nat.reduceMul, Nat.reduceSub, Int.reduceToNat, Nat.reduceBEq, List.size_toArray, List.length_cons, List.length_nil, Bool.false_and, Bool.true_and, Bool.or_false, Bool.false_or, Bool.and_false, Bool.and_true]
  refine Sem.seqW hext0 (by kernel_rfl) ?_
  cases bA with
  | false =>
    have hr : chanceR p t f g = .tup [.agg [I 0, I 0], I 2] := by simp [chanceR, ← hbA]
    simp (disch := first | (simp only [go_sem, Bool.and_self, eq_self]; done) | omega | (simp only [List.length_cons, List.length_nil]; omega)) only [go_sem, ↓reduceIte, Nat.reduceEqDiff, Nat.reduceAdd, Nat.reduceMul, Nat.reduceSub, Int.reduceToNat, Nat.reduceBEq, List.size_toArray, List.length_cons, List.length_nil, Bool.false_and, Bool.true_and, Bool.or_false, Bool.false_or, Bool.and_false, Bool.and_true, b1, hr]
  | true =>
  cases bB with
  | false =>
    have hr : chanceR p t f g = .tup [.agg [I 0, I 0], I 2] := by simp [chanceR, ← hbB]
    simp (disch := first | (simp only [go_sem, Bool.and_self, eq_self]; done) | omega | (simp only [List.length_cons, List.length_nil]; omega)) only [go_sem, ↓reduceIte, Nat.reduceEqDiff, Nat.reduceAdd, Nat.reduceMul, Nat.reduceSub, Int.reduceToNat, Nat.reduceBEq, List.size_toArray, List.length_cons, List.length_nil, Bool.false_and, Bool.true_and, Bool.or_false, Bool.false_or, Bool.and_false, Bool.and_true, b1, hr]
  | true =>
  obtain ⟨rfl, lA, mpA⟩ := cA rfl
  obtain ⟨rfl, lB, mpB⟩ := cB rfl
  have mpA' := (fB 4 lA).trans mpA
  simp (disch := first | (simp only [go_sem, Bool.and_self, eq_self]; done) | omega | (simp only [List.length_cons, List.length_nil]; omega)) only [go_sem, ↓reduceIte, Nat.reduceEqDiff, Nat.reduceAdd, Nat.reduceMul, Nat.reduceSub, Int.reduceToNat, Nat.reduceBEq, List.size_toArray, List.length_cons, List.length_nil, Bool.false_and, Bool.true_and, Bool.or_false, Bool.false_or, Bool.and_false, Bool.and_true]
  refine Sem.seqW hext0 (by kernel_rfl) ?_
  have hse : sealA hB (.mp (hA.nx + 1)) = some (mvE g, hB.put (hA.nx + 1) (some (.mp true (entF g)))) := by
    have hpu : AV.pureL ((entF g).map (·.2)) = true := by
      generalize g = l
      induction l with
      | nil => rfl
      | cons q l ih => simpa [entF, AV.pureL, AV.isPure] using ih
    show sealV0 hB (.mp (hA.nx + 1)) = _
    simp only [sealV0, AV.isPure, mpB, hpu]
    simp
  have ks := fun h h' K => k55 (h := h) (h' := h') (K := K) p t N g
  simp (disch := first | (simp only [go_sem, Bool.and_self, eq_self]; done) | omega | (simp only [List.length_cons, List.length_nil]; omega)) only [go_sem, ↓reduceIte, Nat.reduceEqDiff, Nat.reduceAdd, Nat.reduceMul, Nat.reduceSub, Int.reduceToNat, Nat.reduceBEq, List.size_toArray, List.length_cons, List.length_nil, Bool.false_and, Bool.true_and, Bool.or_false, Bool.false_or, Bool.and_false, Bool.and_true, b2, hse, ks]
  refine Sem.seqW hext0 (by kernel_rfl) ?_
  obtain ⟨z0, z1⟩ := sumB_bounds N g
  by_cases hz : sumB p t g = 0
  · have hr : chanceR p t f g = .tup [.agg [I 0, I 0], I 6] := by simp [chanceR, h1, ← hbA, ← hbB, hz]
    simp (disch := first | (simp only [go_sem, Bool.and_self, eq_self]; done) | omega | (simp only [List.length_cons, List.length_nil]; omega)) only [go_sem, ↓reduceIte, Nat.reduceEqDiff, Nat.reduceAdd, Nat.reduceMul, Nat.reduceSub, Int.reduceToNat, Nat.reduceBEq, List.size_toArray, List.length_cons, List.length_nil, Bool.false_and, Bool.true_and, Bool.or_false, Bool.false_or, Bool.and_false, Bool.and_true, hz, b1, hr]
  simp (disch := first | (simp only [go_sem, Bool.and_self, eq_self]; done) | omega | (simp only [List.length_cons, List.length_nil]; omega)) only [go_sem, ↓reduceIte, Nat.reduceEqDiff, Nat.reduceAdd, Nat.reduceMul, Nat.reduceSub, Int.reduceToNat, Nat.reduceBEq, List.size_toArray, List.length_cons, List.length_nil, Bool.false_and, Bool.true_and, Bool.or_false, Bool.false_or, Bool.and_false, Bool.and_true, hz]
  have hlA : hA.nx + 1 < hB.nx := lB
  refine Sem.seq ?_
  refine (Sem.rangeMap (P := Try.prog) (n := 81) und90 mpA' (by simp (disch := first | (simp only [go_sem, Bool.and_self, eq_self]; done) | omega | (simp only [List.length_cons, List.length_nil]; omega)) only [go_sem, ↓reduceIte, Nat.reduceEqDiff, Nat.reduceAdd, Nat.reduceMul, Nat.reduceSub, Int.reduceToNat, Nat.reduceBEq, List.size_toArray, List.length_cons, List.length_nil, Bool.false_and, Bool.true_and, Bool.or_false, Bool.false_or, Bool.and_false, Bool.and_true]) (by decide) (by decide) (by decide) (by decide) (by decide) (by decide) (by decide) (by decide) (by decide)
    (by decide) (by decide) (by decide) (by decide) (by decide) (by decide) (by decide) (by decide) (by decide) (by decide)
    (fun D st h => st 6 = .ptr 1 0 ∧ st 7 = I 0 ∧ st 8 = .ptr 2 0 ∧ st 12 = .mp (hA.nx + 1) ∧ st 14 = I (sumB p t g) ∧ st 54 = .ptr hB.nx 0 ∧ h.bl hB.nx = some .it ∧ h.bl 1 = some (.cells false false [I 0, I 0]) ∧ h.bl 2 = some (.cells false false [LLI p, LLI t, I p.length]) ∧
      ∃ es, h.bl (hA.nx + 1) = some (.mp false (entF es)) ∧ (∀ k v, phi es k = some v → phi g k = some v ∨ (phi g k = none ∧ (k, I v) ∈ D)) ∧ (∀ k y, phi g k = some y → phi es k = some y) ∧ (∀ k v, (k, I v) ∈ D → phi es k = some v))
    ?_ ?_ ?_ ?_)
  · rintro D st h ⟨_, _, _, _, _, s54, bi, _⟩
    exact ⟨s54, bi⟩
  · refine ⟨by simp (disch := first | (simp only [go_sem, Bool.and_self, eq_self]; done) | omega | (simp only [List.length_cons, List.length_nil]; omega)) only [go_sem, ↓reduceIte, Nat.reduceEqDiff, Nat.reduceAdd, Nat.reduceMul, Nat.reduceSub, Int.reduceToNat, Nat.reduceBEq, List.size_toArray, List.length_cons, List.length_nil, Bool.false_and, Bool.true_and, Bool.or_false, Bool.false_or, Bool.and_false, Bool.and_true], by simp (disch := first | (simp only [go_sem, Bool.and_self, eq_self]; done) | omega | (simp only [List.length_cons, List.length_nil]; omega)) only [go_sem, ↓reduceIte, Nat.reduceEqDiff, Nat.reduceAdd, Nat.reduceMul, Nat.reduceSub, Int.reduceToNat, Nat.reduceBEq, List.size_toArray, List.length_cons, List.length_nil, Bool.false_and, Bool.true_and, Bool.or_false, Bool.false_or, Bool.and_false, Bool.and_true], by simp (disch := first | (simp only [go_sem, Bool.and_self, eq_self]; done) | omega | (simp only [List.length_cons, List.length_nil]; omega)) only [go_sem, ↓reduceIte, Nat.reduceEqDiff, Nat.reduceAdd, Nat.reduceMul, Nat.reduceSub, Int.reduceToNat, Nat.reduceBEq, List.size_toArray, List.length_cons, List.length_nil, Bool.false_and, Bool.true_and, Bool.or_false, Bool.false_or, Bool.and_false, Bool.and_true], by simp (disch := first | (simp only [go_sem, Bool.and_self, eq_self]; done) | omega | (simp only [List.length_cons, List.length_nil]; omega)) only [go_sem, ↓reduceIte, Nat.reduceEqDiff, Nat.reduceAdd, Nat.reduceMul, Nat.reduceSub, Int.reduceToNat, Nat.reduceBEq, List.size_toArray, List.length_cons, List.length_nil, Bool.false_and, Bool.true_and, Bool.or_false, Bool.false_or, Bool.and_false, Bool.and_true], by simp (disch := first | (simp only [go_sem, Bool.and_self, eq_self]; done) | omega | (simp only [List.length_cons, List.length_nil]; omega)) only [go_sem, ↓reduceIte, Nat.reduceEqDiff, Nat.reduceAdd, Nat.reduceMul, Nat.reduceSub, Int.reduceToNat, Nat.reduceBEq, List.size_toArray, List.length_cons, List.length_nil, Bool.false_and, Bool.true_and, Bool.or_false, Bool.false_or, Bool.and_false, Bool.and_true], by simp (disch := first | (simp only [go_sem, Bool.and_self, eq_self]; done) | omega | (simp only [List.length_cons, List.length_nil]; omega)) only [go_sem, ↓reduceIte, Nat.reduceEqDiff, Nat.reduceAdd, Nat.reduceMul, Nat.reduceSub, Int.reduceToNat, Nat.reduceBEq, List.size_toArray, List.length_cons, List.length_nil, Bool.false_and, Bool.true_and, Bool.or_false, Bool.false_or, Bool.and_false, Bool.and_true], by simp [Hp.put, Hp.alloc], ?_, ?_, g, ?_, fun k v h => .inl h, fun k y h => h, fun k v h => by cases h⟩
    · simp [Hp.put, Hp.alloc, show ¬ 1 = hB.nx by omega, b1]
    · simp [Hp.put, Hp.alloc, show ¬ 2 = hB.nx by omega, b2]
    · simp [Hp.put, Hp.alloc, show ¬ hA.nx + 1 = hB.nx by omega, show ¬ hA.nx + 1 = 4 by omega, mpB]
  · rintro D key val st h ⟨s6, s7, s8, s12, s14, s54, bi, c1, c2, es, ce, e1', e2', e3'⟩ hD hmem
    obtain ⟨⟨k, v⟩, hkv, hkv2⟩ := List.mem_map.1 hmem
    simp only [Prod.mk.injEq] at hkv2
    obtain ⟨rfl, rfl⟩ := hkv2
    have hlk := lookB_one 3 3 .i64 (I 0) (hA.nx + 1) false (entF es) k true rfl
    rw [findK_phi] at hlk
    have hfk : findK k (entF es) = (phi es k).map I := findK_phi es k
    refine Sem.mono (Sem.of_WP (cfg := cfg) hext0 (by kernel_rfl) (R := RoundK 1 (fun st h => st 6 = .ptr 1 0 ∧ st 7 = I 0 ∧ st 8 = .ptr 2 0 ∧ st 12 = .mp (hA.nx + 1) ∧ st 14 = I (sumB p t g) ∧ st 54 = .ptr hB.nx 0 ∧ h.bl hB.nx = some .it ∧ h.bl 1 = some (.cells false false [I 0, I 0]) ∧ h.bl 2 = some (.cells false false [LLI p, LLI t, I p.length]) ∧
      ∃ es, h.bl (hA.nx + 1) = some (.mp false (entF es)) ∧ (∀ k' v', phi es k' = some v' → phi g k' = some v' ∨ (phi g k' = none ∧ (k', I v') ∈ D ++ [(k, I v)])) ∧ (∀ k' y, phi g k' = some y → phi es k' = some y) ∧ (∀ k' v', (k', I v') ∈ D ++ [(k, I v)] → phi es k' = some v')) _) ?_) (fun x st h r => r.2)
    have rn : ∀ {J : St → Hp → Prop} {R : Exit → St → Hp → Prop} {st h}, RoundK 1 J R .normal st h = J st h := rfl
    have rr : ∀ {J : St → Hp → Prop} {R : Exit → St → Hp → Prop} {st h}, RoundK 1 J R .ret st h = R .ret st h := rfl
    have same : ∀ k' v', (k', I v') ∈ D → k' = k → v' = v := by
      intro k' v' hm he
      subst he
      have h1 := hD _ hm
      obtain ⟨⟨k2, v2⟩, hkv2, he2⟩ := List.mem_map.1 h1
      simp only [Prod.mk.injEq] at he2
      obtain ⟨rfl, he3⟩ := he2
      have : v2 = v' := by injection he3
      subst this
      have g1 := facts_phi hbA.symm hkv
      have g2 := facts_phi hbA.symm hkv2
      rw [g1] at g2; cases g2; rfl
    cases hph : phi es k with
    | none =>
      rw [hph] at hlk hfk
      simp only [Option.map_none, Option.getD_none, Option.isSome_none] at hlk hfk
      have hno : ∀ q ∈ entF es, q.1 ≠ k := by
        intro q hq he
        have := findK_some (es := entF es) (k := k) ⟨q, hq, he⟩
        rw [hfk] at this; cases this
      have hpk : putK k (I v) (entF es) = entF (es ++ [(k, v)]) := by rw [putK_none hno]; simp [entF]
      have hgk : phi g k = none := by
        cases hgk : phi g k with
        | none => rfl
        | some y => rw [e2' k y hgk] at hph; cases hph
      simp (disch := first | (simp only [go_sem, Bool.and_self, eq_self]; done) | omega | (simp only [List.length_cons, List.length_nil]; omega)) only [go_sem, ↓reduceIte, Nat.reduceEqDiff, Nat.reduceAdd, Nat.reduceMul, Nat.reduceSub, Int.reduceToNat, Nat.reduceBEq, List.size_toArray, List.length_cons, List.length_nil, Bool.false_and, Bool.true_and, Bool.or_false, Bool.false_or, Bool.and_false, Bool.and_true, s12, ce, hlk, hpk, rn]
      refine ⟨s6, s7, s8, s14, s54, ?_, ?_, ?_, es ++ [(k, v)], rfl, fun k' v' hh => ?_, fun k' y hh => ?_, fun k' v' hh => ?_⟩
      · rw [if_neg (by omega)]; exact bi
      · rw [if_neg (by omega)]; exact c1
      · rw [if_neg (by omega)]; exact c2
      · rw [phi_append] at hh
        cases hq : phi es k' with
        | some y =>
          rw [hq] at hh
          simp only [Option.some_or, Option.some.injEq] at hh
          subst hh
          rcases e1' k' y hq with r | ⟨r1, r2⟩
          · exact .inl r
          · exact .inr ⟨r1, List.mem_append_left _ r2⟩
        | none =>
          rw [hq] at hh
          simp only [Option.none_or, phi] at hh
          split at hh
          · rename_i he; cases hh; subst he; exact .inr ⟨hgk, by simp⟩
          · cases hh
      · rw [phi_append, e2' k' y hh]; rfl
      · rw [phi_append]
        rcases List.mem_append.1 hh with hh | hh
        · rw [e3' k' v' hh]; rfl
        · simp only [List.mem_singleton, Prod.mk.injEq] at hh
          obtain ⟨rfl, hv⟩ := hh
          have : v' = v := by injection hv
          subst this
          rw [hph]; simp [phi]
    | some y =>
      rw [hph] at hlk hfk
      simp only [Option.map_some, Option.getD_some, Option.isSome_some] at hlk hfk
      by_cases hy : y = v
      · subst hy
        have hpk : putK k (I y) (entF es) = entF es := by
          clear hlk ce e1' e2' e3' hph
          generalize entF es = l at hfk ⊢
          induction l with
          | nil => cases hfk
          | cons q l ih =>
            obtain ⟨j, u⟩ := q
            simp only [findK] at hfk
            simp only [putK]
            split at hfk
            · rename_i he; cases hfk; rw [if_pos he, he]
            · rename_i he; rw [if_neg he, ih hfk]
        simp (disch := first | (simp only [go_sem, Bool.and_self, eq_self]; done) | omega | (simp only [List.length_cons, List.length_nil]; omega)) only [go_sem, ↓reduceIte, Nat.reduceEqDiff, Nat.reduceAdd, Nat.reduceMul, Nat.reduceSub, Int.reduceToNat, Nat.reduceBEq, List.size_toArray, List.length_cons, List.length_nil, Bool.false_and, Bool.true_and, Bool.or_false, Bool.false_or, Bool.and_false, Bool.and_true, s12, ce, hlk, hpk, rn]
        refine ⟨s6, s7, s8, s14, s54, ?_, ?_, ?_, es, rfl, fun k' v' hh => ?_, e2', fun k' v' hh => ?_⟩
        · rw [if_neg (by omega)]; exact bi
        · rw [if_neg (by omega)]; exact c1
        · rw [if_neg (by omega)]; exact c2
        · rcases e1' k' v' hh with r | ⟨r1, r2⟩
          · exact .inl r
          · exact .inr ⟨r1, List.mem_append_left _ r2⟩
        · rcases List.mem_append.1 hh with hh | hh
          · exact e3' k' v' hh
          · simp only [List.mem_singleton, Prod.mk.injEq] at hh
            obtain ⟨rfl, hv⟩ := hh
            have : v' = y := by injection hv
            subst this
            exact hph
      · have hgk : phi g k = some y := by
          rcases e1' k y hph with r | ⟨r1, r2⟩
          · exact r
          · exact absurd (same k y r2 rfl) hy
        have hcl : clashB g f = true := List.any_eq_true.2 ⟨(k, v), hkv, by simp [hgk, hy]⟩
        have hr : chanceR p t f g = .tup [.agg [I 0, I 1], I 0] := by simp [chanceR, h1, ← hbA, ← hbB, hz, hcl]
        simp (disch := first | (simp only [go_sem, Bool.and_self, eq_self]; done) | omega | (simp only [List.length_cons, List.length_nil]; omega)) only [go_sem, ↓reduceIte, Nat.reduceEqDiff, Nat.reduceAdd, Nat.reduceMul, Nat.reduceSub, Int.reduceToNat, Nat.reduceBEq, List.size_toArray, List.length_cons, List.length_nil, Bool.false_and, Bool.true_and, Bool.or_false, Bool.false_or, Bool.and_false, Bool.and_true, s6, s12, ce, hlk, hy, c1, rr, hr]

        exact trivial
  · rintro D st h ⟨s6, s7, s8, s12, s14, s54, bi, c1, c2, es, ce, e1', e2', e3'⟩ hD hall
    refine ⟨trivial, ?_⟩
    have hin : ∀ k v, (k, v) ∈ f → (k, I v) ∈ D := fun k v hm => hall _ (List.mem_map.2 ⟨(k, v), hm, rfl⟩)
    have hphi : phi es = phi (g ++ f) := by
      funext k
      rw [phi_append]
      cases hgk : phi g k with
      | some y => rw [e2' k y hgk]; rfl
      | none =>
        rw [Option.none_or]
        cases hfk : phi f k with
        | some v => exact e3' k v (hin k v (phi_mem hfk))
        | none =>
          cases hek : phi es k with
          | none => rfl
          | some v =>
            rcases e1' k v hek with r | ⟨_, r⟩
            · rw [hgk] at r; cases r
            · obtain ⟨⟨k2, v2⟩, hkv2, he2⟩ := List.mem_map.1 (hD _ r)
              simp only [Prod.mk.injEq] at he2
              obtain ⟨rfl, _⟩ := he2
              have := facts_phi hbA.symm hkv2
              rw [hfk] at this; cases this
    have hcl : clashB g f = false := by
      rw [clashB, List.any_eq_false]
      rintro ⟨k, v⟩ hm
      have h1 := e3' k v (hin k v hm)
      cases hgk : phi g k with
      | none => simp
      | some y =>
        have := e2' k y hgk
        rw [h1] at this; cases this
        simp
    have hsb : sumB p t es = sumB p t (g ++ f) := by simp only [sumB, hphi]
    have hr : chanceR p t f g = .tup [redu (sumB p t (g ++ f)) (sumB p t g), I 0] := by simp [chanceR, h1, ← hbA, ← hbB, hz, hcl]
    have hse : sealA h (.mp (hA.nx + 1)) = some (mvE es, h.put (hA.nx + 1) (some (.mp true (entF es)))) := by
      have hpu : AV.pureL ((entF es).map (·.2)) = true := by
        generalize es = l
        induction l with
        | nil => rfl
        | cons q l ih => simpa [entF, AV.pureL, AV.isPure] using ih
      show sealV0 h (.mp (hA.nx + 1)) = _
      simp only [sealV0, AV.isPure, ce, hpu]
      simp
    have ks := fun h h' K => k55 (h := h) (h' := h') (K := K) p t N es
    obtain ⟨y0, y1⟩ := sumB_bounds N es
    have kr := fun h h' K => k50 (h := h) (h' := h') (K := K) (sumB p t es) (sumB p t g) ⟨y0, by omega⟩ ⟨by omega, by omega⟩
    rw [← hsb] at hr
    refine Sem.mono (Sem.of_WP (cfg := cfg) hext0 (by kernel_rfl) (R := RetK Try.prog false false Try.f23.results.toList Try.f23.resultTypes.toList (chanceR p t f g)) ?_) (fun x st h r => r.2)
    simp only [Try.f23]
    simp (disch := first | (simp only [go_sem, Bool.and_self, eq_self]; done) | omega | (simp only [List.length_cons, List.length_nil]; omega)) only [go_sem, ↓reduceIte, Nat.reduceEqDiff, Nat.reduceAdd, Nat.reduceMul, Nat.reduceSub, Int.reduceToNat, Nat.reduceBEq, List.size_toArray, List.length_cons, List.length_nil, Bool.false_and, Bool.true_and, Bool.or_false, Bool.false_or, Bool.and_false, Bool.and_true, s6, s7, s8, s12, s14, c1, c2, hse, ks, kr, hr]

end Go.Proofs.Ytpkakapbepkfdaa

set_option linter.unusedVariables false
set_option linter.unusedSimpArgs false
set_option maxRecDepth 10000
namespace Go.Proofs.Ytpkakapbepkfdaa
open Go Go.Am

/-- Chance's answer in awake. -/
def extK (f : FuncId) : List AV → Option AV
  | [.agg [.lst [[.lst []], [.lst [[.int .i64 0]]]], .lst [[.lst [[.int .i64 8]]], [.lst [[.int .i64 4], [.int .i64 12]]]]], .lst [[.int .i64 0, .int .i64 1]], .lst [[.int .i64 1, .int .i64 1]]] =>
    if f = 23 then some (.tup [.agg [I 3, I 4], I 0]) else none
  | _ => none
def cfgK : Cfg := { cfg with ext := extK }
@[go_sem] theorem cfgK_deep : cfgK.deep = false := by kernel_rfl
theorem chance_a : chanceR [[], [0]] [[8], [4, 12]] [(0, 1)] [(1, 1)] = .tup [.agg [I 3, I 4], I 0] := by kernel_rfl
theorem hextK : ExtOk Try.prog cfgK := by
  intro f args r he
  have he : extK f args = some r := he
  unfold extK at he
  split at he
  · split at he
    · rename_i hf
      cases he
      subst hf
      refine ⟨?_, fun _ => rfl⟩
      rw [← chance_a]
      exact f23_pure [[], [0]] [[8], [4, 12]] [(0, 1)] [(1, 1)] ⟨by decide, by decide⟩ ⟨by decide, by decide⟩ (by decide) (by decide)
    · cases he
  · cases he
theorem f20_run : callP Try.prog cfgK 500 20 [] = some (.bool true) := by kernel_rfl
theorem f20_pure : PureOk Try.prog 20 [] (.bool true) := (sound hextK 500).2.2.1 _ _ _ f20_run

end Go.Proofs.Ytpkakapbepkfdaa

set_option linter.unusedVariables false
set_option linter.unusedSimpArgs false
set_option maxRecDepth 10000
namespace Go.Proofs.Ytpkakapbepkfdaa
open Go Go.Am

theorem eqNil_any {P : Program} {w : World} {c : Ctx} {t e : TypeId} (ht : P.underlying t = some (.slice e)) {X : Value} (hx : VR w c (.lst []) X) (a1 a2 : Operand) :
    ∃ b, (eqGuard .eql t a1 a2 X (.slice none 0 0)).run P w = .ok () w ∧ (binOp .eql t X (.slice none 0 0)).run P w = .ok (.bool b) w := by
  cases hx with
  | lst0 =>
    have h : eqA P t .nil .nil = some true := by simp [eqA, ht]
    obtain ⟨h1, h2⟩ := eqA_ok (P := P) (w := w) (c := c) .nil .nil h .eql rfl a1 a2
    exact ⟨_, h1, h2⟩
  | lst xs a cap sz cv =>
    refine ⟨false, rfl, ?_⟩
    have h0 : (binOp .eql t (.slice (some a) 0 cap) (.slice none 0 0)) = (do pure (.bool (← Op.equal t (.slice (some a) 0 cap) (.slice none 0 0)))) := rfl
    have h1 : ∀ d, (Op.equalIn (d + 1) t (.slice (some a) 0 cap) (.slice none 0 0)).run P w = .ok false w := fun d => by simp [Op.equalIn, run_underlying ht]
    show (binOp .eql t (.slice (some a) 0 cap) (.slice none 0 0)).run P w = _
    rw [h0]
    simp only [Op.equal, Op.maxDepth, Sem.run_bind, h1, Result.andThen_ok, Sem.run_pure]
theorem Sem.eqNil {P : Program} {n id d d2 : Nat} {t e y y2 y3 : TypeId} {p p2 : String} {a a2 : Array Edge} {x : Operand} {st : St} {h : Hp} {R : Exit → St → Hp → Prop} (ht : P.underlying t = some (.slice e)) (hx : ev st x = .lst []) (hd : d < n) (hd2 : d2 < n)
    (hr : ∀ b, R .normal (upd (upd st d (.lst [])) d2 (.bool b)) h) :
    Go.Am.Sem P n (.region id #[⟨some d, .move x, y, p, a, none⟩, ⟨some d2, .binOp .eql t (.tmp d) (.const (.slice none 0 0)) y3, y2, p2, a2, none⟩] false) st h R := by
  intro w ctx act H S Q hQ
  have put : ∀ {w : World} {c : Ctx} {st : St} {a : Act} {d : Nat} {u : AV} {x : Value}, SR n w c st a → d < n → VR w c u x → SR n w c (upd st d u) (a.put (some d) x) := fun S hd hx => S.put (d := some _) (fun t ht => by cases ht; exact hd) hx
  have hS := S.ev x
  rw [hx] at hS
  have S1 := put S hd hS
  have hget : (act.put (some d) (act.eval x)).eval (.tmp d) = act.eval x := by
    simp only [Act.eval, Act.put]
    rw [Array.getD_eq_getD_getElem?, Array.getElem?_setIfInBounds, if_pos rfl, if_pos (by rw [S.size]; exact hd), Option.getD_some]
  obtain ⟨b, g1, g2⟩ := eqNil_any (P := P) ht hS (.tmp d) (.const (.slice none 0 0))
  refine wp_region_list ?_
  refine wp1 rfl (w' := w) (x := act.eval x) rfl ?_
  refine wp1 rfl (w' := w) (x := .bool b) ?_ ?_
  · have hc : (act.put (some d) (act.eval x)).eval (.const (.slice none 0 0)) = .slice none 0 0 := rfl
    simp [execOp, hget, hc, g1, g2]
  · exact hQ _ _ _ (hr b) w ctx _ (Ext.refl _ _) H (put S1 hd2 (.bool b))

attribute [local irreducible] Go.Am.Sem
theorem f66_empty : PureOk Try.prog 66 [.lst []] (.fresh 1 []) := by
  refine PureOk.of_Sem (ow := true) (kn := false) (body := Try.f66.body.getD .skip) Try.func66 rfl rfl (Nat.le_of_ble_eq_true rfl) ?_
  simp only [Try.f66, Option.getD_some, initSt1]
  refine Sem.seqW hext0 (by kernel_rfl) ?_
  simp (disch := first | (simp only [go_sem, Bool.and_self, eq_self]; done) | omega | (simp only [List.length_cons, List.length_nil]; omega)) only [go_sem, ↓reduceIte, Nat.reduceEqDiff, Nat.reduceAdd, Nat.reduceMul, Nat.reduceSub, Int.reduceToNat, Nat.reduceBEq, List.size_toArray, List.length_cons, List.length_nil, Bool.false_and, Bool.true_and, Bool.or_false, Bool.false_or, Bool.and_false, Bool.and_true]
  refine Sem.seq (Sem.seq ?_)
  refine Sem.eqNil und25 ?_ ?_ ?_ ?_
  · simp (disch := first | (simp only [go_sem, Bool.and_self, eq_self]; done) | omega | (simp only [List.length_cons, List.length_nil]; omega)) only [go_sem, ↓reduceIte, Nat.reduceEqDiff, Nat.reduceAdd, Nat.reduceMul, Nat.reduceSub, Int.reduceToNat, Nat.reduceBEq, List.size_toArray, List.length_cons, List.length_nil, Bool.false_and, Bool.true_and, Bool.or_false, Bool.false_or, Bool.and_false, Bool.and_true]
  · decide
  · decide
  intro b
  refine ⟨trivial, ?_⟩
  have hbs := fun h => bsB_empty (P := Try.prog) (h := h) 3 1 (I 0) isz3 izero3 Nat.one_pos
  have happ : appB Try.prog (Hp.empty.alloc (.cells false true [])) (some (.slice 3)) true (.sl 0 0 0 1) (.lst []) = some (.sl 1 0 0 1, ((Hp.empty.alloc (.cells false true [])).put 0 none).alloc (.cells false true [])) :=
    app_own (P := Try.prog) (h := Hp.empty.alloc (.cells false true [])) (f := e1 I) 3 8 (I 0) (LI []) 0 [] [] 0 isz3 ibytes3 izero3 rfl (by simp [Hp.alloc, Hp.empty]) rfl (cellsOf_L _ _) (lenA_L _ _) (by simp) (by simp)
  cases b with
  | true =>
    refine Sem.of_WP hext0 (by kernel_rfl) ?_
    simp (disch := first | (simp only [go_sem, Bool.and_self, eq_self]; done) | omega | (simp only [List.length_cons, List.length_nil]; omega)) only [go_sem, ↓reduceIte, Nat.reduceEqDiff, Nat.reduceAdd, Nat.reduceMul, Nat.reduceSub, Int.reduceToNat, Nat.reduceBEq, List.size_toArray, List.length_cons, List.length_nil, Bool.false_and, Bool.true_and, Bool.or_false, Bool.false_or, Bool.and_false, Bool.and_true]
    rfl
  | false =>
    refine Sem.of_WP hext0 (by kernel_rfl) ?_
    simp (disch := first | (simp only [go_sem, Bool.and_self, eq_self]; done) | omega | (simp only [List.length_cons, List.length_nil]; omega)) only [go_sem, ↓reduceIte, Nat.reduceEqDiff, Nat.reduceAdd, Nat.reduceMul, Nat.reduceSub, Int.reduceToNat, Nat.reduceBEq, List.size_toArray, List.length_cons, List.length_nil, Bool.false_and, Bool.true_and, Bool.or_false, Bool.false_or, Bool.and_false, Bool.and_true]
    refine Sem.mono (Sem.of_WP (cfg := cfg) hext0 (by kernel_rfl) (R := RetK Try.prog true false [.tmp 2] [25] (.fresh 1 [])) ?_) (fun x st h r => r.2)
    simp (disch := first | (simp only [go_sem, Bool.and_self, eq_self]; done) | omega | (simp only [List.length_cons, List.length_nil]; omega)) only [go_sem, ↓reduceIte, Nat.reduceEqDiff, Nat.reduceAdd, Nat.reduceMul, Nat.reduceSub, Int.reduceToNat, Nat.reduceBEq, List.size_toArray, List.length_cons, List.length_nil, Bool.false_and, Bool.true_and, Bool.or_false, Bool.false_or, Bool.and_false, Bool.and_true, hbs, happ]
    rfl

end Go.Proofs.Ytpkakapbepkfdaa

set_option linter.unusedVariables false
set_option linter.unusedSimpArgs false
set_option maxRecDepth 10000
namespace Go.Proofs.Ytpkakapbepkfdaa
open Go Go.Am

variable {h h' : Hp} {K : AV → Hp → Prop}

/-- The row of values that a number stands for, the first value the highest bit. -/
def rowN (n x : Nat) : List Int := (List.range n).map fun j => ((x / 2 ^ (n - 1 - j) % 2 : Nat) : Int)
theorem rowN_len (n x : Nat) : (rowN n x).length = n := by simp [rowN]
theorem rowN_nth {n x j : Nat} (hj : j < n) : nth (rowN n x) j = ((x / 2 ^ (n - 1 - j) % 2 : Nat) : Int) := nth_map_range _ _ _ hj

theorem nat_tmod2 (y : Nat) : (y : Int).tmod 2 = ((y % 2 : Nat) : Int) := by rw [Int.tmod_eq_emod_of_nonneg (by omega)]; omega
theorem nat_tdiv2 (y : Nat) : (y : Int).tdiv 2 = ((y / 2 : Nat) : Int) := by rw [Int.tdiv_eq_ediv_of_nonneg (by omega)]; omega
theorem f33_con (n x : Nat) (hn : n ≤ 10) (hx : x < 1024) : Con Try.prog cfg 33 [I n, I x] (LI (rowN n x)) := by
  have hmk := fun h => makeB_int (P := Try.prog) (h := h) 3 (n : Int) isz3 ibytes3 izero3 (by omega) (by omega)
  refine Con_intro Try.func33 rfl ok33 (Nat.le_of_ble_eq_true rfl) rfl ?_
  simp only [Try.f33, Option.getD_some, initSt2]
  simp (disch := first | (simp only [go_sem, Bool.and_self, eq_self]; done) | omega | (simp only [List.length_cons, List.length_nil]; omega)) only [go_sem, ↓reduceIte, Nat.reduceEqDiff, Nat.reduceAdd, Nat.reduceMul, Nat.reduceSub, Int.reduceToNat, Nat.reduceBEq, List.size_toArray, List.length_cons, List.length_nil, Bool.false_and, Bool.true_and, Bool.or_false, Bool.false_or, Bool.and_false, Bool.and_true, hmk]
  refine WP_loopK (fun m st h => ∃ xs : List Int, m ≤ n ∧ st 5 = .sl 0 0 n 1 ∧ st 6 = I ((m : Int) - 1) ∧ st 1 = I ((x / 2 ^ (n - m) : Nat) : Int) ∧ h.nx = 1 ∧ h.bl 0 = some (.cells false true (xs.flatMap (e1 I))) ∧ xs.length = n ∧ ∀ j, m ≤ j → j < n → nth xs j = nth (rowN n x) j) n
    ⟨List.replicate n 0, Nat.le_refl _, by simp (disch := first | (simp only [go_sem, Bool.and_self, eq_self]; done) | omega | (simp only [List.length_cons, List.length_nil]; omega)) only [go_sem, ↓reduceIte, Nat.reduceEqDiff, Nat.reduceAdd, Nat.reduceMul, Nat.reduceSub, Int.reduceToNat, Nat.reduceBEq, List.size_toArray, List.length_cons, List.length_nil, Bool.false_and, Bool.true_and, Bool.or_false, Bool.false_or, Bool.and_false, Bool.and_true], by simp (disch := first | (simp only [go_sem, Bool.and_self, eq_self]; done) | omega | (simp only [List.length_cons, List.length_nil]; omega)) only [go_sem, ↓reduceIte, Nat.reduceEqDiff, Nat.reduceAdd, Nat.reduceMul, Nat.reduceSub, Int.reduceToNat, Nat.reduceBEq, List.size_toArray, List.length_cons, List.length_nil, Bool.false_and, Bool.true_and, Bool.or_false, Bool.false_or, Bool.and_false, Bool.and_true], by simp (disch := first | (simp only [go_sem, Bool.and_self, eq_self]; done) | omega | (simp only [List.length_cons, List.length_nil]; omega)) only [go_sem, ↓reduceIte, Nat.reduceEqDiff, Nat.reduceAdd, Nat.reduceMul, Nat.reduceSub, Int.reduceToNat, Nat.reduceBEq, List.size_toArray, List.length_cons, List.length_nil, Bool.false_and, Bool.true_and, Bool.or_false, Bool.false_or, Bool.and_false, Bool.and_true]; simp, by simp (disch := first | (simp only [go_sem, Bool.and_self, eq_self]; done) | omega | (simp only [List.length_cons, List.length_nil]; omega)) only [go_sem, ↓reduceIte, Nat.reduceEqDiff, Nat.reduceAdd, Nat.reduceMul, Nat.reduceSub, Int.reduceToNat, Nat.reduceBEq, List.size_toArray, List.length_cons, List.length_nil, Bool.false_and, Bool.true_and, Bool.or_false, Bool.false_or, Bool.and_false, Bool.and_true], by simp (disch := first | (simp only [go_sem, Bool.and_self, eq_self]; done) | omega | (simp only [List.length_cons, List.length_nil]; omega)) only [go_sem, ↓reduceIte, Nat.reduceEqDiff, Nat.reduceAdd, Nat.reduceMul, Nat.reduceSub, Int.reduceToNat, Nat.reduceBEq, List.size_toArray, List.length_cons, List.length_nil, Bool.false_and, Bool.true_and, Bool.or_false, Bool.false_or, Bool.and_false, Bool.and_true], by simp, by omega⟩ ?_
  rintro m st h ⟨xs, hm, s5, s6, s1, bn, b0, hxl, hg⟩
  by_cases hm0 : m = 0
  · subst hm0
    have hneg : ¬ (0 : Int) ≤ ((0 : Nat) : Int) - 1 := by omega
    have : xs = rowN n x := by
      refine List.ext_getElem (by rw [hxl, rowN_len]) fun j h1 h2 => ?_
      rw [← nth_getElem h1, ← nth_getElem h2]
      exact hg j (by omega) (by omega)
    subst this
    simp (disch := first | (simp only [go_sem, Bool.and_self, eq_self]; done) | omega | (simp only [List.length_cons, List.length_nil]; omega)) only [go_sem, ↓reduceIte, Nat.reduceEqDiff, Nat.reduceAdd, Nat.reduceMul, Nat.reduceSub, Int.reduceToNat, Nat.reduceBEq, List.size_toArray, List.length_cons, List.length_nil, Bool.false_and, Bool.true_and, Bool.or_false, Bool.false_or, Bool.and_false, Bool.and_true, s5, s6, hneg]
    refine export_Own (f := e1 I) 25 (.inr ⟨0, ?_, by omega, b0⟩)
    rw [rowN_len]
  have hpos : (0 : Int) ≤ (m : Int) - 1 := by omega
  have hlt : (m : Int) - 1 < n := by omega
  have htn : ((m : Int) - 1).toNat = m - 1 := by omega
  have hxb : x / 2 ^ (n - m) ≤ x := Nat.div_le_self _ _
  have t1 := nat_tmod2 (x / 2 ^ (n - m))
  have t2 := nat_tdiv2 (x / 2 ^ (n - m))
  have n20 : ¬ (2 : Int) = 0 := by decide
  simp (disch := first | (simp only [go_sem, Bool.and_self, eq_self]; done) | omega | (simp only [List.length_cons, List.length_nil]; omega)) only [go_sem, ↓reduceIte, Nat.reduceEqDiff, Nat.reduceAdd, Nat.reduceMul, Nat.reduceSub, Int.reduceToNat, Nat.reduceBEq, List.size_toArray, List.length_cons, List.length_nil, Bool.false_and, Bool.true_and, Bool.or_false, Bool.false_or, Bool.and_false, Bool.and_true, s5, s6, s1, bn, b0, hpos, hlt, htn, hxl, t1, t2, n20]
  rw [LoopK_normal]
  refine ⟨m - 1, by omega, xs.set (m - 1) ((x / 2 ^ (n - m) % 2 : Nat) : Int), by omega, by simp (disch := first | (simp only [go_sem, Bool.and_self, eq_self]; done) | omega | (simp only [List.length_cons, List.length_nil]; omega)) only [go_sem, ↓reduceIte, Nat.reduceEqDiff, Nat.reduceAdd, Nat.reduceMul, Nat.reduceSub, Int.reduceToNat, Nat.reduceBEq, List.size_toArray, List.length_cons, List.length_nil, Bool.false_and, Bool.true_and, Bool.or_false, Bool.false_or, Bool.and_false, Bool.and_true, s5], ?_, ?_, by simp (disch := first | (simp only [go_sem, Bool.and_self, eq_self]; done) | omega | (simp only [List.length_cons, List.length_nil]; omega)) only [go_sem, ↓reduceIte, Nat.reduceEqDiff, Nat.reduceAdd, Nat.reduceMul, Nat.reduceSub, Int.reduceToNat, Nat.reduceBEq, List.size_toArray, List.length_cons, List.length_nil, Bool.false_and, Bool.true_and, Bool.or_false, Bool.false_or, Bool.and_false, Bool.and_true, bn], by simp (disch := first | (simp only [go_sem, Bool.and_self, eq_self]; done) | omega | (simp only [List.length_cons, List.length_nil]; omega)) only [go_sem, ↓reduceIte, Nat.reduceEqDiff, Nat.reduceAdd, Nat.reduceMul, Nat.reduceSub, Int.reduceToNat, Nat.reduceBEq, List.size_toArray, List.length_cons, List.length_nil, Bool.false_and, Bool.true_and, Bool.or_false, Bool.false_or, Bool.and_false, Bool.and_true], by simpa using hxl, fun j h1 h2 => ?_⟩
  · simp (disch := first | (simp only [go_sem, Bool.and_self, eq_self]; done) | omega | (simp only [List.length_cons, List.length_nil]; omega)) only [go_sem, ↓reduceIte, Nat.reduceEqDiff, Nat.reduceAdd, Nat.reduceMul, Nat.reduceSub, Int.reduceToNat, Nat.reduceBEq, List.size_toArray, List.length_cons, List.length_nil, Bool.false_and, Bool.true_and, Bool.or_false, Bool.false_or, Bool.and_false, Bool.and_true]; rw [show ((m - 1 : Nat) : Int) - 1 = (m : Int) - 1 - 1 by omega]
  · simp (disch := first | (simp only [go_sem, Bool.and_self, eq_self]; done) | omega | (simp only [List.length_cons, List.length_nil]; omega)) only [go_sem, ↓reduceIte, Nat.reduceEqDiff, Nat.reduceAdd, Nat.reduceMul, Nat.reduceSub, Int.reduceToNat, Nat.reduceBEq, List.size_toArray, List.length_cons, List.length_nil, Bool.false_and, Bool.true_and, Bool.or_false, Bool.false_or, Bool.and_false, Bool.and_true]
    rw [Nat.div_div_eq_div_mul, ← Nat.pow_succ, show n - (m - 1) = (n - m).succ by omega]
    have hzb := Nat.div_le_self x (2 ^ (n - m).succ)
    generalize x / 2 ^ (n - m).succ = z at hzb ⊢
    rw [wrap_ok _ (by omega) (by omega)]
  · rw [nth_set _ _ _ _ (by omega)]
    by_cases he : m - 1 = j
    · subst he
      rw [if_pos rfl, rowN_nth h2, show n - 1 - (m - 1) = n - m by omega]
    · rw [if_neg he]; exact hg j (by omega) h2

def agreeB (v : List Int) (fs : List (Int × Int)) : Bool := fs.all fun q => decide (nth v q.1.toNat = q.2)
theorem f67_con (v : List Int) (fs : List (Int × Int)) (hf : fs.length ≤ maxLen) (hk : ∀ q ∈ fs, 0 ≤ q.1 ∧ q.1 < v.length) : Con Try.prog cfg 67 [LI v, LP fs] (.bool (agreeB v fs)) := by
  have ml : maxLen = 9223372036854775807 := by decide
  refine Con_intro Try.func67 rfl ok67 (Nat.le_of_ble_eq_true rfl) rfl ?_
  simp only [Try.f67, Option.getD_some, initSt2]
  simp (disch := first | (simp only [go_sem, Bool.and_self, eq_self]; done) | omega | (simp only [List.length_cons, List.length_nil]; omega)) only [go_sem, ↓reduceIte, Nat.reduceEqDiff, Nat.reduceAdd, Nat.reduceMul, Nat.reduceSub, Int.reduceToNat, Nat.reduceBEq, List.size_toArray, List.length_cons, List.length_nil, Bool.false_and, Bool.true_and, Bool.or_false, Bool.false_or, Bool.and_false, Bool.and_true]
  refine WP_for 5 fs.length (fun i st h => st 0 = LI v ∧ st 1 = LP fs ∧ h.nx = 0 ∧ ∀ j, j < i → nth v (nth fs j).1.toNat = (nth fs j).2) (by simp (disch := first | (simp only [go_sem, Bool.and_self, eq_self]; done) | omega | (simp only [List.length_cons, List.length_nil]; omega)) only [go_sem, ↓reduceIte, Nat.reduceEqDiff, Nat.reduceAdd, Nat.reduceMul, Nat.reduceSub, Int.reduceToNat, Nat.reduceBEq, List.size_toArray, List.length_cons, List.length_nil, Bool.false_and, Bool.true_and, Bool.or_false, Bool.false_or, Bool.and_false, Bool.and_true]) ⟨by simp (disch := first | (simp only [go_sem, Bool.and_self, eq_self]; done) | omega | (simp only [List.length_cons, List.length_nil]; omega)) only [go_sem, ↓reduceIte, Nat.reduceEqDiff, Nat.reduceAdd, Nat.reduceMul, Nat.reduceSub, Int.reduceToNat, Nat.reduceBEq, List.size_toArray, List.length_cons, List.length_nil, Bool.false_and, Bool.true_and, Bool.or_false, Bool.false_or, Bool.and_false, Bool.and_true], by simp (disch := first | (simp only [go_sem, Bool.and_self, eq_self]; done) | omega | (simp only [List.length_cons, List.length_nil]; omega)) only [go_sem, ↓reduceIte, Nat.reduceEqDiff, Nat.reduceAdd, Nat.reduceMul, Nat.reduceSub, Int.reduceToNat, Nat.reduceBEq, List.size_toArray, List.length_cons, List.length_nil, Bool.false_and, Bool.true_and, Bool.or_false, Bool.false_or, Bool.and_false, Bool.and_true], by simp (disch := first | (simp only [go_sem, Bool.and_self, eq_self]; done) | omega | (simp only [List.length_cons, List.length_nil]; omega)) only [go_sem, ↓reduceIte, Nat.reduceEqDiff, Nat.reduceAdd, Nat.reduceMul, Nat.reduceSub, Int.reduceToNat, Nat.reduceBEq, List.size_toArray, List.length_cons, List.length_nil, Bool.false_and, Bool.true_and, Bool.or_false, Bool.false_or, Bool.and_false, Bool.and_true], by omega⟩ ?_
  rintro i st h hi s5 ⟨s0, s1, bn, hg⟩
  by_cases hlt : i < fs.length
  case neg =>
    have : agreeB v fs = true := by
      rw [agreeB, List.all_eq_true]
      intro q hq
      obtain ⟨j, hj, rfl⟩ := List.getElem_of_mem hq
      have := hg j (by omega)
      rw [nth_getElem hj] at this
      simp [this]
    simp (disch := first | (simp only [go_sem, Bool.and_self, eq_self]; done) | omega | (simp only [List.length_cons, List.length_nil]; omega)) only [go_sem, ↓reduceIte, Nat.reduceEqDiff, Nat.reduceAdd, Nat.reduceMul, Nat.reduceSub, Int.reduceToNat, Nat.reduceBEq, List.size_toArray, List.length_cons, List.length_nil, Bool.false_and, Bool.true_and, Bool.or_false, Bool.false_or, Bool.and_false, Bool.and_true, s0, s1, s5, hlt, this]
  obtain ⟨k0, k1⟩ := hk _ (nth_mem hlt)
  have g0 : (eP (nth fs i)) = [I (nth fs i).1, I (nth fs i).2] := rfl
  by_cases he : nth v (nth fs i).1.toNat = (nth fs i).2
  · simp (disch := first | (simp only [go_sem, Bool.and_self, eq_self]; done) | omega | (simp only [List.length_cons, List.length_nil]; omega)) only [go_sem, ↓reduceIte, Nat.reduceEqDiff, Nat.reduceAdd, Nat.reduceMul, Nat.reduceSub, Int.reduceToNat, Nat.reduceBEq, List.size_toArray, List.length_cons, List.length_nil, Bool.false_and, Bool.true_and, Bool.or_false, Bool.false_or, Bool.and_false, Bool.and_true, s0, s1, s5, hlt, g0, k0, k1, List.drop_succ_cons, List.drop_zero, he]
    rw [ForK_normal]
    refine ⟨hlt, by simp (disch := first | (simp only [go_sem, Bool.and_self, eq_self]; done) | omega | (simp only [List.length_cons, List.length_nil]; omega)) only [go_sem, ↓reduceIte, Nat.reduceEqDiff, Nat.reduceAdd, Nat.reduceMul, Nat.reduceSub, Int.reduceToNat, Nat.reduceBEq, List.size_toArray, List.length_cons, List.length_nil, Bool.false_and, Bool.true_and, Bool.or_false, Bool.false_or, Bool.and_false, Bool.and_true, s5], by simp (disch := first | (simp only [go_sem, Bool.and_self, eq_self]; done) | omega | (simp only [List.length_cons, List.length_nil]; omega)) only [go_sem, ↓reduceIte, Nat.reduceEqDiff, Nat.reduceAdd, Nat.reduceMul, Nat.reduceSub, Int.reduceToNat, Nat.reduceBEq, List.size_toArray, List.length_cons, List.length_nil, Bool.false_and, Bool.true_and, Bool.or_false, Bool.false_or, Bool.and_false, Bool.and_true, s0], by simp (disch := first | (simp only [go_sem, Bool.and_self, eq_self]; done) | omega | (simp only [List.length_cons, List.length_nil]; omega)) only [go_sem, ↓reduceIte, Nat.reduceEqDiff, Nat.reduceAdd, Nat.reduceMul, Nat.reduceSub, Int.reduceToNat, Nat.reduceBEq, List.size_toArray, List.length_cons, List.length_nil, Bool.false_and, Bool.true_and, Bool.or_false, Bool.false_or, Bool.and_false, Bool.and_true, s1], by simp (disch := first | (simp only [go_sem, Bool.and_self, eq_self]; done) | omega | (simp only [List.length_cons, List.length_nil]; omega)) only [go_sem, ↓reduceIte, Nat.reduceEqDiff, Nat.reduceAdd, Nat.reduceMul, Nat.reduceSub, Int.reduceToNat, Nat.reduceBEq, List.size_toArray, List.length_cons, List.length_nil, Bool.false_and, Bool.true_and, Bool.or_false, Bool.false_or, Bool.and_false, Bool.and_true, bn], fun j hj => ?_⟩
    rcases Nat.lt_or_ge j i with h | h
    · exact hg j h
    · rw [show j = i by omega]; exact he
  · have : agreeB v fs = false := by
      rw [agreeB, List.all_eq_false]
      exact ⟨_, nth_mem hlt, by simp [he]⟩
    simp (disch := first | (simp only [go_sem, Bool.and_self, eq_self]; done) | omega | (simp only [List.length_cons, List.length_nil]; omega)) only [go_sem, ↓reduceIte, Nat.reduceEqDiff, Nat.reduceAdd, Nat.reduceMul, Nat.reduceSub, Int.reduceToNat, Nat.reduceBEq, List.size_toArray, List.length_cons, List.length_nil, Bool.false_and, Bool.true_and, Bool.or_false, Bool.false_or, Bool.and_false, Bool.and_true, s0, s1, s5, hlt, g0, k0, k1, List.drop_succ_cons, List.drop_zero, he, this]

end Go.Proofs.Ytpkakapbepkfdaa

set_option linter.unusedVariables false
set_option linter.unusedSimpArgs false
set_option maxRecDepth 10000
namespace Go.Proofs.Ytpkakapbepkfdaa
open Go Go.Am

variable {h h' : Hp} {K : AV → Hp → Prop}

theorem fact_f {n : Int} {fs : List (Int × Int)} {i : Nat} (hi : i < fs.length) (h : factB n fs i = false) : factsB n fs = false := not_all_range hi h
theorem f56_con (n : Int) (hn : 1 ≤ n ∧ n ≤ 10) (fs : List (Int × Int)) (hf : fs.length ≤ maxLen) : Con Try.prog cfg 56 [I n, LP fs] (.bool (factsB n fs)) := by
  have ml : maxLen = 9223372036854775807 := by decide
  refine Con_intro Try.func56 rfl ok56 (Nat.le_of_ble_eq_true rfl) rfl ?_
  simp only [Try.f56, Option.getD_some, initSt2]
  simp (disch := first | (simp only [go_sem, Bool.and_self, eq_self]; done) | omega | (simp only [List.length_cons, List.length_nil]; omega)) only [go_sem, ↓reduceIte, Nat.reduceEqDiff, Nat.reduceAdd, Nat.reduceMul, Nat.reduceSub, Int.reduceToNat, Nat.reduceBEq, List.size_toArray, List.length_cons, List.length_nil, Bool.false_and, Bool.true_and, Bool.or_false, Bool.false_or, Bool.and_false, Bool.and_true]
  refine WP_for 5 fs.length (fun i st h => st 0 = I n ∧ st 1 = LP fs ∧ ∀ j, j < i → factB n fs j = true) (by simp (disch := first | (simp only [go_sem, Bool.and_self, eq_self]; done) | omega | (simp only [List.length_cons, List.length_nil]; omega)) only [go_sem, ↓reduceIte, Nat.reduceEqDiff, Nat.reduceAdd, Nat.reduceMul, Nat.reduceSub, Int.reduceToNat, Nat.reduceBEq, List.size_toArray, List.length_cons, List.length_nil, Bool.false_and, Bool.true_and, Bool.or_false, Bool.false_or, Bool.and_false, Bool.and_true]) ⟨by simp (disch := first | (simp only [go_sem, Bool.and_self, eq_self]; done) | omega | (simp only [List.length_cons, List.length_nil]; omega)) only [go_sem, ↓reduceIte, Nat.reduceEqDiff, Nat.reduceAdd, Nat.reduceMul, Nat.reduceSub, Int.reduceToNat, Nat.reduceBEq, List.size_toArray, List.length_cons, List.length_nil, Bool.false_and, Bool.true_and, Bool.or_false, Bool.false_or, Bool.and_false, Bool.and_true], by simp (disch := first | (simp only [go_sem, Bool.and_self, eq_self]; done) | omega | (simp only [List.length_cons, List.length_nil]; omega)) only [go_sem, ↓reduceIte, Nat.reduceEqDiff, Nat.reduceAdd, Nat.reduceMul, Nat.reduceSub, Int.reduceToNat, Nat.reduceBEq, List.size_toArray, List.length_cons, List.length_nil, Bool.false_and, Bool.true_and, Bool.or_false, Bool.false_or, Bool.and_false, Bool.and_true], by omega⟩ ?_
  rintro i st h hi s5 ⟨s0, s1, hg⟩
  by_cases hlt : i < fs.length
  case neg =>
    have : factsB n fs = true := all_range fun j hj => hg j (by omega)
    simp (disch := first | (simp only [go_sem, Bool.and_self, eq_self]; done) | omega | (simp only [List.length_cons, List.length_nil]; omega)) only [go_sem, ↓reduceIte, Nat.reduceEqDiff, Nat.reduceAdd, Nat.reduceMul, Nat.reduceSub, Int.reduceToNat, Nat.reduceBEq, List.size_toArray, List.length_cons, List.length_nil, Bool.false_and, Bool.true_and, Bool.or_false, Bool.false_or, Bool.and_false, Bool.and_true, s0, s1, s5, hlt, this]
  have g0 : (eP (nth fs i)) = [I (nth fs i).1, I (nth fs i).2] := rfl
  by_cases h1 : (nth fs i).1 < 0
  · have q := fact_f (n := n) hlt (by simp only [factB, inB, decide_eq_false (show ¬ (0 ≤ (nth fs i).1 ∧ (nth fs i).1 ≤ n - 1) by omega), Bool.false_and])
    simp (disch := first | (simp only [go_sem, Bool.and_self, eq_self]; done) | omega | (simp only [List.length_cons, List.length_nil]; omega)) only [go_sem, ↓reduceIte, Nat.reduceEqDiff, Nat.reduceAdd, Nat.reduceMul, Nat.reduceSub, Int.reduceToNat, Nat.reduceBEq, List.size_toArray, List.length_cons, List.length_nil, Bool.false_and, Bool.true_and, Bool.or_false, Bool.false_or, Bool.and_false, Bool.and_true, s0, s1, s5, hlt, g0, List.drop_succ_cons, List.drop_zero, h1, q]
  by_cases h2 : n ≤ (nth fs i).1
  · have q := fact_f (n := n) hlt (by simp only [factB, inB, decide_eq_false (show ¬ (0 ≤ (nth fs i).1 ∧ (nth fs i).1 ≤ n - 1) by omega), Bool.false_and])
    simp (disch := first | (simp only [go_sem, Bool.and_self, eq_self]; done) | omega | (simp only [List.length_cons, List.length_nil]; omega)) only [go_sem, ↓reduceIte, Nat.reduceEqDiff, Nat.reduceAdd, Nat.reduceMul, Nat.reduceSub, Int.reduceToNat, Nat.reduceBEq, List.size_toArray, List.length_cons, List.length_nil, Bool.false_and, Bool.true_and, Bool.or_false, Bool.false_or, Bool.and_false, Bool.and_true, s0, s1, s5, hlt, g0, List.drop_succ_cons, List.drop_zero, h1, h2, q]
  by_cases h3 : (nth fs i).2 < 0
  · have q := fact_f (n := n) hlt (by simp only [factB, inB, decide_eq_false (show ¬ (0 ≤ (nth fs i).2 ∧ (nth fs i).2 ≤ 1) by omega), Bool.false_and, Bool.and_false])
    simp (disch := first | (simp only [go_sem, Bool.and_self, eq_self]; done) | omega | (simp only [List.length_cons, List.length_nil]; omega)) only [go_sem, ↓reduceIte, Nat.reduceEqDiff, Nat.reduceAdd, Nat.reduceMul, Nat.reduceSub, Int.reduceToNat, Nat.reduceBEq, List.size_toArray, List.length_cons, List.length_nil, Bool.false_and, Bool.true_and, Bool.or_false, Bool.false_or, Bool.and_false, Bool.and_true, s0, s1, s5, hlt, g0, List.drop_succ_cons, List.drop_zero, h1, h2, h3, q]
  by_cases h4 : 1 < (nth fs i).2
  · have q := fact_f (n := n) hlt (by simp only [factB, inB, decide_eq_false (show ¬ (0 ≤ (nth fs i).2 ∧ (nth fs i).2 ≤ 1) by omega), Bool.false_and, Bool.and_false])
    simp (disch := first | (simp only [go_sem, Bool.and_self, eq_self]; done) | omega | (simp only [List.length_cons, List.length_nil]; omega)) only [go_sem, ↓reduceIte, Nat.reduceEqDiff, Nat.reduceAdd, Nat.reduceMul, Nat.reduceSub, Int.reduceToNat, Nat.reduceBEq, List.size_toArray, List.length_cons, List.length_nil, Bool.false_and, Bool.true_and, Bool.or_false, Bool.false_or, Bool.and_false, Bool.and_true, s0, s1, s5, hlt, g0, List.drop_succ_cons, List.drop_zero, h1, h2, h3, h4, q]
  simp (disch := first | (simp only [go_sem, Bool.and_self, eq_self]; done) | omega | (simp only [List.length_cons, List.length_nil]; omega)) only [go_sem, ↓reduceIte, Nat.reduceEqDiff, Nat.reduceAdd, Nat.reduceMul, Nat.reduceSub, Int.reduceToNat, Nat.reduceBEq, List.size_toArray, List.length_cons, List.length_nil, Bool.false_and, Bool.true_and, Bool.or_false, Bool.false_or, Bool.and_false, Bool.and_true, s0, s1, s5, hlt, g0, List.drop_succ_cons, List.drop_zero, h1, h2, h3, h4]
  refine WP_cut (fun st h => st 0 = I n ∧ st 1 = LP fs ∧ st 5 = I i ∧ ∀ j, j < i → (nth fs j).1 ≠ (nth fs i).1) ?_ ?_
  · refine WP_for 6 i (fun k st h => st 0 = I n ∧ st 1 = LP fs ∧ st 5 = I i ∧ ∀ j, j < k → (nth fs j).1 ≠ (nth fs i).1) (by simp (disch := first | (simp only [go_sem, Bool.and_self, eq_self]; done) | omega | (simp only [List.length_cons, List.length_nil]; omega)) only [go_sem, ↓reduceIte, Nat.reduceEqDiff, Nat.reduceAdd, Nat.reduceMul, Nat.reduceSub, Int.reduceToNat, Nat.reduceBEq, List.size_toArray, List.length_cons, List.length_nil, Bool.false_and, Bool.true_and, Bool.or_false, Bool.false_or, Bool.and_false, Bool.and_true]) ⟨by simp (disch := first | (simp only [go_sem, Bool.and_self, eq_self]; done) | omega | (simp only [List.length_cons, List.length_nil]; omega)) only [go_sem, ↓reduceIte, Nat.reduceEqDiff, Nat.reduceAdd, Nat.reduceMul, Nat.reduceSub, Int.reduceToNat, Nat.reduceBEq, List.size_toArray, List.length_cons, List.length_nil, Bool.false_and, Bool.true_and, Bool.or_false, Bool.false_or, Bool.and_false, Bool.and_true, s0], by simp (disch := first | (simp only [go_sem, Bool.and_self, eq_self]; done) | omega | (simp only [List.length_cons, List.length_nil]; omega)) only [go_sem, ↓reduceIte, Nat.reduceEqDiff, Nat.reduceAdd, Nat.reduceMul, Nat.reduceSub, Int.reduceToNat, Nat.reduceBEq, List.size_toArray, List.length_cons, List.length_nil, Bool.false_and, Bool.true_and, Bool.or_false, Bool.false_or, Bool.and_false, Bool.and_true, s1], by simp (disch := first | (simp only [go_sem, Bool.and_self, eq_self]; done) | omega | (simp only [List.length_cons, List.length_nil]; omega)) only [go_sem, ↓reduceIte, Nat.reduceEqDiff, Nat.reduceAdd, Nat.reduceMul, Nat.reduceSub, Int.reduceToNat, Nat.reduceBEq, List.size_toArray, List.length_cons, List.length_nil, Bool.false_and, Bool.true_and, Bool.or_false, Bool.false_or, Bool.and_false, Bool.and_true, s5], by omega⟩ ?_
    rintro k st h hk s6 ⟨s0, s1, s5, hm⟩
    by_cases hki : k < i
    case neg =>
      simp (disch := first | (simp only [go_sem, Bool.and_self, eq_self]; done) | omega | (simp only [List.length_cons, List.length_nil]; omega)) only [go_sem, ↓reduceIte, Nat.reduceEqDiff, Nat.reduceAdd, Nat.reduceMul, Nat.reduceSub, Int.reduceToNat, Nat.reduceBEq, List.size_toArray, List.length_cons, List.length_nil, Bool.false_and, Bool.true_and, Bool.or_false, Bool.false_or, Bool.and_false, Bool.and_true, s0, s1, s5, s6, hki]
      exact fun j hj => hm j (by omega)
    have hkl : k < fs.length := by omega
    have g1 : (eP (nth fs k)) = [I (nth fs k).1, I (nth fs k).2] := rfl
    by_cases he : (nth fs k).1 = (nth fs i).1
    · have q := fact_f (n := n) hlt (by simp only [factB, not_all_range (f := fun j => !((nth fs j).1 == (nth fs i).1)) hki (by simp [he]), Bool.and_false])
      simp (disch := first | (simp only [go_sem, Bool.and_self, eq_self]; done) | omega | (simp only [List.length_cons, List.length_nil]; omega)) only [go_sem, ↓reduceIte, Nat.reduceEqDiff, Nat.reduceAdd, Nat.reduceMul, Nat.reduceSub, Int.reduceToNat, Nat.reduceBEq, List.size_toArray, List.length_cons, List.length_nil, Bool.false_and, Bool.true_and, Bool.or_false, Bool.false_or, Bool.and_false, Bool.and_true, s0, s1, s5, s6, hki, hkl, hlt, g0, g1, List.drop_succ_cons, List.drop_zero, he, q]
    · simp (disch := first | (simp only [go_sem, Bool.and_self, eq_self]; done) | omega | (simp only [List.length_cons, List.length_nil]; omega)) only [go_sem, ↓reduceIte, Nat.reduceEqDiff, Nat.reduceAdd, Nat.reduceMul, Nat.reduceSub, Int.reduceToNat, Nat.reduceBEq, List.size_toArray, List.length_cons, List.length_nil, Bool.false_and, Bool.true_and, Bool.or_false, Bool.false_or, Bool.and_false, Bool.and_true, s0, s1, s5, s6, hki, hkl, hlt, g0, g1, List.drop_succ_cons, List.drop_zero, he]
      rw [ForK_normal]
      refine ⟨hki, by simp (disch := first | (simp only [go_sem, Bool.and_self, eq_self]; done) | omega | (simp only [List.length_cons, List.length_nil]; omega)) only [go_sem, ↓reduceIte, Nat.reduceEqDiff, Nat.reduceAdd, Nat.reduceMul, Nat.reduceSub, Int.reduceToNat, Nat.reduceBEq, List.size_toArray, List.length_cons, List.length_nil, Bool.false_and, Bool.true_and, Bool.or_false, Bool.false_or, Bool.and_false, Bool.and_true, s6], by simp (disch := first | (simp only [go_sem, Bool.and_self, eq_self]; done) | omega | (simp only [List.length_cons, List.length_nil]; omega)) only [go_sem, ↓reduceIte, Nat.reduceEqDiff, Nat.reduceAdd, Nat.reduceMul, Nat.reduceSub, Int.reduceToNat, Nat.reduceBEq, List.size_toArray, List.length_cons, List.length_nil, Bool.false_and, Bool.true_and, Bool.or_false, Bool.false_or, Bool.and_false, Bool.and_true, s0], by simp (disch := first | (simp only [go_sem, Bool.and_self, eq_self]; done) | omega | (simp only [List.length_cons, List.length_nil]; omega)) only [go_sem, ↓reduceIte, Nat.reduceEqDiff, Nat.reduceAdd, Nat.reduceMul, Nat.reduceSub, Int.reduceToNat, Nat.reduceBEq, List.size_toArray, List.length_cons, List.length_nil, Bool.false_and, Bool.true_and, Bool.or_false, Bool.false_or, Bool.and_false, Bool.and_true, s1], by simp (disch := first | (simp only [go_sem, Bool.and_self, eq_self]; done) | omega | (simp only [List.length_cons, List.length_nil]; omega)) only [go_sem, ↓reduceIte, Nat.reduceEqDiff, Nat.reduceAdd, Nat.reduceMul, Nat.reduceSub, Int.reduceToNat, Nat.reduceBEq, List.size_toArray, List.length_cons, List.length_nil, Bool.false_and, Bool.true_and, Bool.or_false, Bool.false_or, Bool.and_false, Bool.and_true, s5], fun j hj => ?_⟩
      rcases Nat.lt_or_ge j k with h | h
      · exact hm j h
      · rw [show j = k by omega]; exact he
  · rintro st h ⟨s0, s1, s5, hd⟩
    simp (disch := first | (simp only [go_sem, Bool.and_self, eq_self]; done) | omega | (simp only [List.length_cons, List.length_nil]; omega)) only [go_sem, ↓reduceIte, Nat.reduceEqDiff, Nat.reduceAdd, Nat.reduceMul, Nat.reduceSub, Int.reduceToNat, Nat.reduceBEq, List.size_toArray, List.length_cons, List.length_nil, Bool.false_and, Bool.true_and, Bool.or_false, Bool.false_or, Bool.and_false, Bool.and_true, s5]
    rw [ForK_normal]
    refine ⟨hlt, by simp (disch := first | (simp only [go_sem, Bool.and_self, eq_self]; done) | omega | (simp only [List.length_cons, List.length_nil]; omega)) only [go_sem, ↓reduceIte, Nat.reduceEqDiff, Nat.reduceAdd, Nat.reduceMul, Nat.reduceSub, Int.reduceToNat, Nat.reduceBEq, List.size_toArray, List.length_cons, List.length_nil, Bool.false_and, Bool.true_and, Bool.or_false, Bool.false_or, Bool.and_false, Bool.and_true, s5], by simp (disch := first | (simp only [go_sem, Bool.and_self, eq_self]; done) | omega | (simp only [List.length_cons, List.length_nil]; omega)) only [go_sem, ↓reduceIte, Nat.reduceEqDiff, Nat.reduceAdd, Nat.reduceMul, Nat.reduceSub, Int.reduceToNat, Nat.reduceBEq, List.size_toArray, List.length_cons, List.length_nil, Bool.false_and, Bool.true_and, Bool.or_false, Bool.false_or, Bool.and_false, Bool.and_true, s0], by simp (disch := first | (simp only [go_sem, Bool.and_self, eq_self]; done) | omega | (simp only [List.length_cons, List.length_nil]; omega)) only [go_sem, ↓reduceIte, Nat.reduceEqDiff, Nat.reduceAdd, Nat.reduceMul, Nat.reduceSub, Int.reduceToNat, Nat.reduceBEq, List.size_toArray, List.length_cons, List.length_nil, Bool.false_and, Bool.true_and, Bool.or_false, Bool.false_or, Bool.and_false, Bool.and_true, s1], fun j hj => ?_⟩
    rcases Nat.lt_or_ge j i with h | h
    · exact hg j h
    · rw [show j = i by omega]
      have a1 : inB (nth fs i).1 0 (n - 1) = true := by simp only [inB, decide_eq_true_eq]; omega
      have a2 : inB (nth fs i).2 0 1 = true := by simp only [inB, decide_eq_true_eq]; omega
      simp only [factB, a1, a2, Bool.true_and]
      exact all_range fun j hj => by simp [hd j hj]

theorem facts_in {n : Nat} {fs : List (Int × Int)} (h : factsB n fs = true) : ∀ q ∈ fs, 0 ≤ q.1 ∧ q.1 < n := by
  intro q hq
  obtain ⟨j, hj, rfl⟩ := List.getElem_of_mem hq
  have := range_all h hj
  simp only [factB, inB, Bool.and_eq_true, decide_eq_true_eq] at this
  rw [nth_getElem hj] at this
  omega
theorem row_rowN {p : List (List Int)} {x : Nat} : Row p (rowN p.length x) := ⟨rowN_len _ _, fun i hi => by rw [rowN_nth hi]; omega⟩

end Go.Proofs.Ytpkakapbepkfdaa

set_option linter.unusedVariables false
set_option linter.unusedSimpArgs false
set_option maxRecDepth 10000
namespace Go.Proofs.Ytpkakapbepkfdaa
open Go Go.Am

variable {h h' : Hp} {K : AV → Hp → Prop}

end Go.Proofs.Ytpkakapbepkfdaa

set_option linter.unusedVariables false
set_option linter.unusedSimpArgs false
set_option maxRecDepth 10000
namespace Go.Proofs.Ytpkakapbepkfdaa
open Go Go.Am

theorem rowN_zero {m x : Nat} (hx : x < 2 ^ m) : rowN (m + 1) x = 0 :: rowN m x := by
  simp only [rowN, List.range_succ_eq_map, List.map_cons, List.map_map]
  congr 1
  · rw [show m + 1 - 1 - 0 = m by omega, Nat.div_eq_of_lt hx]; rfl
  · refine List.map_congr_left fun j hj => ?_
    have := List.mem_range.1 hj
    simp only [Function.comp]
    rw [show m + 1 - 1 - (j + 1) = m - 1 - j by omega]
theorem rowN_one {m y : Nat} (hy : y < 2 ^ m) : rowN (m + 1) (2 ^ m + y) = 1 :: rowN m y := by
  simp only [rowN, List.range_succ_eq_map, List.map_cons, List.map_map]
  congr 1
  · have h2 : 0 < 2 ^ m := Nat.pow_pos (by decide)
    have : (2 ^ m + y) / 2 ^ m = 1 := by
      rw [Nat.add_div_left _ h2, Nat.div_eq_of_lt hy]
    rw [show m + 1 - 1 - 0 = m by omega, this]; rfl
  · refine List.map_congr_left fun j hj => ?_
    have hj := List.mem_range.1 hj
    simp only [Function.comp]
    rw [show m + 1 - 1 - (j + 1) = m - 1 - j by omega]
    have h2 : 0 < 2 ^ (m - 1 - j) := Nat.pow_pos (by decide)
    have e : 2 ^ m = 2 ^ (m - 1 - j) * (2 * 2 ^ j) := by
      rw [← Nat.pow_succ', ← Nat.pow_add]; congr 1; omega
    have : (2 ^ m + y) / 2 ^ (m - 1 - j) % 2 = y / 2 ^ (m - 1 - j) % 2 := by
      rw [e, Nat.mul_add_div h2]; omega
    rw [this]
def okFrom (φ : Int → Option Int) (i : Nat) : List Int → Bool
  | [] => true
  | x :: w => okv φ i x && okFrom φ (i + 1) w
theorem okFrom_iff {φ : Int → Option Int} : ∀ {w : List Int} {i : Nat}, okFrom φ i w = true ↔ ∀ j, j < w.length → ∀ y, φ ((i + j : Nat) : Int) = some y → y = nth w j
  | [], i => by simp [okFrom]
  | x :: w, i => by
    rw [okFrom, Bool.and_eq_true, okFrom_iff]
    constructor
    · rintro ⟨h1, h2⟩ j hj y hy
      cases j with
      | zero =>
        simp only [Nat.add_zero] at hy
        simp only [okv, hy, decide_eq_true_eq] at h1
        exact h1
      | succ j =>
        have := h2 j (by simpa using hj) y (by rw [show i + 1 + j = i + (j + 1) by omega]; exact hy)
        rw [this]; rfl
    · intro h
      refine ⟨?_, fun j hj y hy => ?_⟩
      · cases hφ : φ i with
        | none => simp [okv, hφ]
        | some y => have := h 0 (by simp) y (by simpa using hφ); simp only [okv, hφ, decide_eq_true_eq]; exact this
      · have := h (j + 1) (by simpa using hj) y (by rw [show i + (j + 1) = i + 1 + j by omega]; exact hy)
        rw [this]; rfl
theorem agree_iff {v : List Int} {fs : List (Int × Int)} : agreeB v fs = true ↔ ∀ q ∈ fs, nth v q.1.toNat = q.2 := by
  simp [agreeB]

theorem ok_facts {n : Nat} {g f : List (Int × Int)} (hg : factsB n g = true) (hf : factsB n f = true) (hc : clashB g f = false) {w : List Int} (hw : w.length = n) :
    okFrom (phi (g ++ f)) 0 w = (agreeB w f && agreeB w g) := by
  rw [Bool.eq_iff_iff, okFrom_iff, Bool.and_eq_true, agree_iff, agree_iff]
  have hc' : ∀ q ∈ f, ∀ y, phi g q.1 = some y → y = q.2 := by
    intro q hq y hy
    rw [clashB, List.any_eq_false] at hc
    have := hc q hq
    simpa [hy] using this
  constructor
  · intro h
    have key : ∀ k v : Int, 0 ≤ k ∧ k < (n : Int) → phi (g ++ f) k = some v → nth w k.toNat = v := by
      intro k v hk hv
      have := h k.toNat (by omega) v (by rw [show ((0 + k.toNat : Nat) : Int) = k by omega]; exact hv)
      exact this.symm
    refine ⟨fun q hq => ?_, fun q hq => ?_⟩
    · refine key q.1 q.2 (facts_in hf q hq) ?_
      rw [phi_append]
      have h1 := facts_phi hf (k := q.1) (v := q.2) hq
      cases hgk : phi g q.1 with
      | none => rw [h1]; rfl
      | some y => rw [hc' q hq y hgk]; rfl
    · refine key q.1 q.2 (facts_in hg q hq) ?_
      rw [phi_append, facts_phi hg (k := q.1) (v := q.2) hq]; rfl
  · rintro ⟨h1, h2⟩ j hj y hy
    rw [phi_append] at hy
    simp only [Nat.zero_add] at hy
    cases hgk : phi g (j : Int) with
    | some z =>
      rw [hgk] at hy
      simp only [Option.some_or, Option.some.injEq] at hy
      subst hy
      have := h2 _ (phi_mem hgk)
      simpa using this.symm
    | none =>
      rw [hgk] at hy
      simp only [Option.none_or] at hy
      have := h1 _ (phi_mem hy)
      simpa using this.symm

end Go.Proofs.Ytpkakapbepkfdaa

set_option linter.unusedVariables false
set_option linter.unusedSimpArgs false
set_option maxRecDepth 10000
namespace Go.Proofs.Ytpkakapbepkfdaa
open Go Go.Am

variable {h h' : Hp} {K : AV → Hp → Prop}

def ChRel (args : List AV) (r : AV) : Prop := ∃ p t f g, okLL p ∧ okLL t ∧ f.length ≤ maxLen ∧ g.length ≤ maxLen ∧ args = [.agg [LLI p, LLI t], LP f, LP g] ∧ r = chanceR p t f g
def baseL : List Nat := [16, 17, 18, 19, 21, 24, 25, 30, 31, 32, 33, 34, 35, 36, 37, 38, 39, 40, 43, 26, 27, 28, 29, 44, 45, 46, 49, 50, 52, 55]
open Classical in
noncomputable def extX (f : FuncId) (args : List AV) : Option AV :=
  if f = 23 then (if h : ∃ r, ChRel args r then some h.choose else if h : ∃ r, Con Try.prog cfg 23 args r then some h.choose else none)
  else if f = 20 then (if args = [] then some (.bool true) else none)
  else if f = 66 then (if args = [.lst []] then some (.fresh 1 []) else if h : ∃ r, Con Try.prog cfg 66 args r then some h.choose else none)
  else if baseL.contains f = true then (if h : ∃ r, Con Try.prog cfg f args r then some h.choose else none) else none
noncomputable def cfgX : Cfg := { cfg with ext := extX, own := fun f => f == 66 || f == 55, strict := fun a b => cfg.strict a b || (a == 1 && b == 12) }
@[go_sem] theorem cfgX_deep : cfgX.deep = false := by kernel_rfl
theorem own_base : ∀ f ∈ baseL, cfg.own f = false := by decide

theorem chance_pure (p t : List (List Int)) (f g : List (Int × Int)) : (chanceR p t f g).isPure = true := by
  unfold chanceR
  repeat' split
  all_goals rfl
theorem hextX : ExtOk Try.prog cfgX := by
  intro f args r he
  have he : extX f args = some r := he
  unfold extX at he
  split at he
  · rename_i h23
    split at he
    · rename_i h
      cases he
      obtain ⟨p, t, f', g, q1, q2, q3, q4, e, er⟩ := h.choose_spec
      subst h23
      rw [er]
      refine ⟨?_, fun _ => chance_pure _ _ _ _⟩
      rw [e]; exact f23_pure p t f' g q1 q2 q3 q4
    · split at he
      · rename_i h
        cases he
        obtain ⟨k, hk⟩ := h.choose_spec
        subst h23
        exact ⟨(sound hext0 k).2.2.1 _ _ _ hk, fun ho => callP_pure (P := Try.prog) (cfg := cfg) (fun _ _ _ h => by cases h) rfl hk⟩
      · cases he
  · split at he
    · rename_i h20
      split at he
      · rename_i hn
        cases he
        subst h20; subst hn
        exact ⟨f20_pure, fun _ => rfl⟩
      · cases he
    split at he
    · rename_i h66
      split at he
      · rename_i hn
        cases he
        subst h66; subst hn
        exact ⟨f66_empty, fun h => by cases h⟩
      · split at he
        · rename_i h
          cases he
          obtain ⟨k, hk⟩ := h.choose_spec
          subst h66
          exact ⟨(sound hext0 k).2.2.1 _ _ _ hk, fun h => by cases h⟩
        · cases he
    split at he
    · rename_i hbase
      split at he
      · rename_i h
        cases he
        obtain ⟨k, hk⟩ := h.choose_spec
        exact ⟨(sound hext0 k).2.2.1 _ _ _ hk, fun ho => callP_pure (P := Try.prog) (cfg := cfg) (fun _ _ _ h => by cases h) (own_base f (by simpa using hbase)) hk⟩
      · cases he
    · cases he
theorem lift {f : FuncId} {args : List AV} {r : AV} (hb : (decide (f = 23) || (decide (f = 20) || (decide (f = 66) || !baseL.contains f))) = false) (hc : Con Try.prog cfg f args r) : Con Try.prog cfgX f args r := by
  simp only [Bool.or_eq_false_iff, decide_eq_false_iff_not, Bool.not_eq_false'] at hb
  refine ⟨1, ?_⟩
  have : extX f args = some r := by
    unfold extX
    have hex : ∃ r, Con Try.prog cfg f args r := ⟨r, hc⟩
    rw [if_neg hb.1, if_neg hb.2.1, if_neg hb.2.2.1, if_pos hb.2.2.2, dif_pos hex]
    obtain ⟨k, hk⟩ := hex.choose_spec
    obtain ⟨k', hk'⟩ := hc
    rw [callP_det hk hk']
  show (match extX f args with | some r => some r | none => _) = _
  rw [this]
theorem lift66 {args : List AV} {r : AV} (hn : args ≠ [.lst []]) (hc : Con Try.prog cfg 66 args r) : Con Try.prog cfgX 66 args r := by
  refine ⟨1, ?_⟩
  have : extX 66 args = some r := by
    unfold extX
    have hex : ∃ r, Con Try.prog cfg 66 args r := ⟨r, hc⟩
    rw [if_neg (by decide), if_neg (by decide), if_pos rfl, if_neg hn, dif_pos hex]
    obtain ⟨k, hk⟩ := hex.choose_spec
    obtain ⟨k', hk'⟩ := hc
    rw [callP_det hk hk']
  show (match extX 66 args with | some r => some r | none => _) = _
  rw [this]
theorem clone_nil : Con Try.prog cfgX 66 [.lst []] (.fresh 1 []) := by
  refine ⟨1, ?_⟩
  have : extX 66 [.lst []] = some (.fresh 1 []) := by
    unfold extX
    rw [if_neg (by decide), if_neg (by decide), if_pos rfl, if_pos rfl]
  show (match extX 66 [.lst []] with | some r => some r | none => _) = _
  rw [this]
theorem awake_con : Con Try.prog cfgX 20 [] (.bool true) := by
  refine ⟨1, ?_⟩
  have : cfgX.ext 20 [] = some (.bool true) := by
    show extX 20 [] = _
    unfold extX
    rw [if_neg (by decide), if_pos rfl, if_pos rfl]
  simp only [callP, this]

@[go_sem] theorem cfgX_wr_8_9 : cfgX.wr 8 9 = [] := rfl
@[go_sem] theorem cfgX_wr_9_12 : cfgX.wr 9 12 = [11] := rfl
@[go_sem] theorem cfgX_wr_11_7 : cfgX.wr 11 7 = [] := rfl
@[go_sem] theorem cfgX_wr_3_4 : cfgX.wr 3 4 = [] := rfl
@[go_sem] theorem cfgX_wr_9_8 : cfgX.wr 9 8 = [] := rfl
@[go_sem] theorem cfgX_wr_1_12 : cfgX.wr 1 12 = [] := rfl
@[go_sem] theorem cfgX_strict (a b : Nat) : cfgX.strict a b = (cfg.strict a b || (a == 1 && b == 12)) := rfl
@[go_sem] theorem shrX3 : cfgX.shared 3 = false := by kernel_rfl
@[go_sem] theorem shrX4 : cfgX.shared 4 = false := by kernel_rfl
@[go_sem] theorem shrX5 : cfgX.shared 5 = false := by kernel_rfl
@[go_sem] theorem shrX6 : cfgX.shared 6 = false := by kernel_rfl
@[go_sem] theorem shrX7 : cfgX.shared 7 = false := by kernel_rfl
@[go_sem] theorem shrX8 : cfgX.shared 8 = false := by kernel_rfl
@[go_sem] theorem shrX9 : cfgX.shared 9 = false := by kernel_rfl
@[go_sem] theorem shrX10 : cfgX.shared 10 = false := by kernel_rfl
@[go_sem] theorem shrX11 : cfgX.shared 11 = false := by kernel_rfl
@[go_sem] theorem shrX12 : cfgX.shared 12 = false := by kernel_rfl
@[go_sem] theorem shrX13 : cfgX.shared 13 = false := by kernel_rfl
@[go_sem] theorem shrX14 : cfgX.shared 14 = false := by kernel_rfl
@[go_sem] theorem shrX15 : cfgX.shared 15 = false := by kernel_rfl
@[go_sem] theorem shrX16 : cfgX.shared 16 = false := by kernel_rfl
@[go_sem] theorem shrX17 : cfgX.shared 17 = false := by kernel_rfl
@[go_sem] theorem shrX18 : cfgX.shared 18 = false := by kernel_rfl
@[go_sem] theorem shrX19 : cfgX.shared 19 = false := by kernel_rfl
@[go_sem] theorem shrX20 : cfgX.shared 20 = false := by kernel_rfl
@[go_sem] theorem shrX21 : cfgX.shared 21 = false := by kernel_rfl
@[go_sem] theorem shrX22 : cfgX.shared 22 = false := by kernel_rfl
@[go_sem] theorem shrX23 : cfgX.shared 23 = false := by kernel_rfl
@[go_sem] theorem shrX24 : cfgX.shared 24 = false := by kernel_rfl
@[go_sem] theorem shrX25 : cfgX.shared 25 = false := by kernel_rfl
@[go_sem] theorem shrX26 : cfgX.shared 26 = false := by kernel_rfl
@[go_sem] theorem shrX27 : cfgX.shared 27 = false := by kernel_rfl
@[go_sem] theorem shrX28 : cfgX.shared 28 = false := by kernel_rfl
@[go_sem] theorem shrX29 : cfgX.shared 29 = false := by kernel_rfl
@[go_sem] theorem shrX30 : cfgX.shared 30 = false := by kernel_rfl
@[go_sem] theorem shrX31 : cfgX.shared 31 = false := by kernel_rfl
@[go_sem] theorem shrX32 : cfgX.shared 32 = false := by kernel_rfl
@[go_sem] theorem shrX33 : cfgX.shared 33 = false := by kernel_rfl
@[go_sem] theorem shrX34 : cfgX.shared 34 = false := by kernel_rfl
@[go_sem] theorem shrX35 : cfgX.shared 35 = false := by kernel_rfl
@[go_sem] theorem shrX36 : cfgX.shared 36 = false := by kernel_rfl
@[go_sem] theorem shrX37 : cfgX.shared 37 = false := by kernel_rfl
@[go_sem] theorem shrX38 : cfgX.shared 38 = false := by kernel_rfl
@[go_sem] theorem shrX39 : cfgX.shared 39 = false := by kernel_rfl
@[go_sem] theorem shrX40 : cfgX.shared 40 = false := by kernel_rfl
@[go_sem] theorem shrX41 : cfgX.shared 41 = false := by kernel_rfl
@[go_sem] theorem shrX42 : cfgX.shared 42 = false := by kernel_rfl
@[go_sem] theorem shrX43 : cfgX.shared 43 = false := by kernel_rfl
@[go_sem] theorem shrX44 : cfgX.shared 44 = false := by kernel_rfl
@[go_sem] theorem shrX45 : cfgX.shared 45 = false := by kernel_rfl
@[go_sem] theorem shrX46 : cfgX.shared 46 = false := by kernel_rfl
@[go_sem] theorem shrX49 : cfgX.shared 49 = false := by kernel_rfl
@[go_sem] theorem shrX50 : cfgX.shared 50 = false := by kernel_rfl
@[go_sem] theorem shrX52 : cfgX.shared 52 = false := by kernel_rfl
@[go_sem] theorem shrX55 : cfgX.shared 55 = false := by kernel_rfl
@[go_sem] theorem shrX66 : cfgX.shared 66 = false := by kernel_rfl
@[go_sem] theorem shrX70 : cfgX.shared 70 = false := by kernel_rfl
@[go_sem] theorem ownX66 : cfgX.own 66 = true := rfl
@[go_sem] theorem ownX55 : cfgX.own 55 = true := rfl
@[go_sem] theorem ownX50 : cfgX.own 50 = false := rfl
@[go_sem] theorem ownX52 : cfgX.own 52 = false := rfl
@[go_sem] theorem ownX41 : cfgX.own 41 = false := rfl
@[go_sem] theorem knX41 : cfgX.keepNil 41 = false := rfl
@[go_sem] theorem ownX42 : cfgX.own 42 = false := rfl
@[go_sem] theorem knX42 : cfgX.keepNil 42 = false := rfl
@[go_sem] theorem ownX70 : cfgX.own 70 = false := rfl
@[go_sem] theorem knX70 : cfgX.keepNil 70 = false := rfl
@[go_sem] theorem ownX3 : cfgX.own 3 = false := rfl
@[go_sem] theorem knX3 : cfgX.keepNil 3 = false := rfl
@[go_sem] theorem ownX5 : cfgX.own 5 = false := rfl
@[go_sem] theorem knX5 : cfgX.keepNil 5 = false := rfl
@[go_sem] theorem ownX6 : cfgX.own 6 = false := rfl
@[go_sem] theorem knX6 : cfgX.keepNil 6 = false := rfl
@[go_sem] theorem ownX8 : cfgX.own 8 = false := rfl
@[go_sem] theorem knX8 : cfgX.keepNil 8 = false := rfl
@[go_sem] theorem ownX9 : cfgX.own 9 = false := rfl
@[go_sem] theorem knX9 : cfgX.keepNil 9 = false := rfl
@[go_sem] theorem ownX10 : cfgX.own 10 = false := rfl
@[go_sem] theorem knX10 : cfgX.keepNil 10 = false := rfl
@[go_sem] theorem ownX11 : cfgX.own 11 = false := rfl
@[go_sem] theorem knX11 : cfgX.keepNil 11 = false := rfl
@[go_sem] theorem ownX12 : cfgX.own 12 = false := rfl
@[go_sem] theorem knX12 : cfgX.keepNil 12 = false := rfl
@[go_sem] theorem ownX13 : cfgX.own 13 = false := rfl
@[go_sem] theorem knX13 : cfgX.keepNil 13 = false := rfl
@[go_sem] theorem ownX14 : cfgX.own 14 = false := rfl
@[go_sem] theorem knX14 : cfgX.keepNil 14 = false := rfl
@[go_sem] theorem ownX15 : cfgX.own 15 = false := rfl
@[go_sem] theorem knX15 : cfgX.keepNil 15 = false := rfl
@[go_sem] theorem ownX4 : cfgX.own 4 = false := rfl
@[go_sem] theorem knX4 : cfgX.keepNil 4 = false := rfl
@[go_sem] theorem ownX22 : cfgX.own 22 = false := rfl
@[go_sem] theorem knX22 : cfgX.keepNil 22 = false := rfl
end Go.Proofs.Ytpkakapbepkfdaa

set_option linter.unusedVariables false
set_option linter.unusedSimpArgs false
set_option maxRecDepth 10000
namespace Go.Proofs.Ytpkakapbepkfdaa
open Go Go.Am

variable {h h' : Hp} {K : AV → Hp → Prop}

theorem listM_len (v : List Int) : (listM v).length ≤ 20 := by rw [listM, List.length_take]; omega
theorem tableM_ok (a : List (List Int)) : okLL (tableM a) := by
  have ml : maxLen = 9223372036854775807 := by decide
  refine ⟨by simp [tableM]; omega, fun r hr => ?_⟩
  obtain ⟨i, _, rfl⟩ := List.mem_map.1 hr
  have := listM_len (nth a i)
  unfold tableRow; omega

theorem f19_nil : Con Try.prog cfg 19 [.agg [.nil, .nil]] (.bool false) := ⟨100, by kernel_rfl⟩
theorem netV_cons {p t : List (List Int)} (h : ¬ (p = [] ∧ t = [])) : netV p t = .agg [LLI p, LLI t] := by rw [netV, if_neg h]
theorem netV_nil : netV [] [] = .agg [.nil, .nil] := rfl

end Go.Proofs.Ytpkakapbepkfdaa

set_option linter.unusedVariables false
set_option linter.unusedSimpArgs false
set_option maxRecDepth 10000
namespace Go.Proofs.Ytpkakapbepkfdaa
open Go Go.Am

variable {h h' : Hp} {K : AV → Hp → Prop}

/-- A contract whose answer is only described. -/
theorem Con_introE {P : Program} {cfg : Cfg} {f : FuncId} {fn : Func} {args : List AV} {R : AV → Prop} (hf : P.funcs[f]? = some fn) (hbody : fn.body.isSome = true) (hok : funcOk cfg fn (fn.body.getD .skip) = true) (hl : args.length ≤ fn.ntmps) (hext : cfg.ext f args = none)
    (hw : WP P cfg (fn.body.getD .skip) (initSt args) Hp.empty (fun x st h => ∃ r, RetK P (cfg.own f) (cfg.keepNil f) fn.results.toList fn.resultTypes.toList r x st h ∧ R r)) : ∃ r, Con P cfg f args r ∧ R r := by
  obtain ⟨k, x, st', h', e, r, hr, q⟩ := hw
  exact ⟨r, Con_intro hf hbody hok hl hext ⟨k, x, st', h', e, hr⟩, q⟩

/-- What follows the first n parts. -/
def tailN : Nat → Code → Code
  | 0, c => c
  | n + 1, .seq _ b => tailN n b
  | _, c => c

/-- The first n parts, with something else behind them. -/
def withTail : Nat → Code → Code → Code
  | 0, _, T => T
  | n + 1, .seq a b, T => .seq a (withTail n b T)
  | _, c, _ => c

end Go.Proofs.Ytpkakapbepkfdaa

set_option linter.unusedVariables false
set_option linter.unusedSimpArgs false
set_option maxRecDepth 10000
namespace Go.Proofs.Ytpkakapbepkfdaa
open Go Go.Am

variable {h h' : Hp} {K : AV → Hp → Prop}

@[go_sem] theorem und105 : Try.prog.underlying 105 = some (.int .u64) := Try.underlying105
def modI (x n : Int) : Int := x % 18446744073709551616 % n
theorem modI_bounds (x : Int) {n : Int} (hn : 0 < n) : 0 ≤ modI x n ∧ modI x n < n := ⟨Int.emod_nonneg _ (by omega), Int.emod_lt_of_pos _ hn⟩
theorem f31_con (x n : Int) (hn : 0 < n ∧ n ≤ 9223372036854775807) : Con Try.prog cfg 31 [I x, I n] (I (modI x n)) := by
  have hw : ∀ y, IntKind.wrap .u64 y = y % 18446744073709551616 := fun y => rfl
  have hn2 : n % 18446744073709551616 = n := Int.emod_eq_of_lt (by omega) (by omega)
  have hx := Int.emod_nonneg x (b := 18446744073709551616) (by decide)
  have ht : (x % 18446744073709551616).tmod n = modI x n := by rw [modI, Int.tmod_eq_emod_of_nonneg hx]
  have hb := modI_bounds x hn.1
  have hne : ¬ n = 0 := by omega
  refine Con_intro Try.func31 rfl ok31 (Nat.le_of_ble_eq_true rfl) rfl ?_
  simp only [Try.f31, Option.getD_some, initSt2]
  simp (disch := first | (simp only [go_sem, Bool.and_self, eq_self]; done) | omega | (simp only [List.length_cons, List.length_nil]; omega)) only [go_sem, ↓reduceIte, Nat.reduceEqDiff, Nat.reduceAdd, Nat.reduceMul, Nat.reduceSub, Int.reduceToNat, Nat.reduceBEq, List.size_toArray, List.length_cons, List.length_nil, Bool.false_and, Bool.true_and, Bool.or_false, Bool.false_or, Bool.and_false, Bool.and_true, hw, hn2, ht, hne]
theorem k31 (x n : Int) (hn : 0 < n ∧ n ≤ 9223372036854775807) : ConW Try.prog cfg 31 h (some ([I x, I n], h')) K = K (I (modI x n)) h := ConW_num (f31_con x n hn) rfl

/-! ### Lists that may be nil -/
def LV (v : AV) (p : List (List Int)) : Prop := v = LLI p ∨ (v = .nil ∧ p = [])
theorem LV.len {v : AV} {p : List (List Int)} (l : LV v p) (h : Hp) (lim : Option Nat) : lenB (some (.slice 25)) v h lim = some (I p.length) := by
  rcases l with rfl | ⟨rfl, rfl⟩
  · exact lenB_L _ _ _
  · rfl
theorem LV.cell {v : AV} {p : List (List Int)} (l : LV v p) : v.isCell = true := by
  rcases l with rfl | ⟨rfl, rfl⟩ <;> rfl
theorem LV.some {v : AV} {p : List (List Int)} (l : LV v p) {i : Nat} (hi : i < p.length) : v = LLI p := by
  rcases l with rfl | ⟨_, rfl⟩
  · rfl
  · cases hi

/-! ### Rows of a network -/
def rowOK (i : Nat) (r t : List Int) : Bool :=
  decide (r.length ≤ 3) && decide (t.length = 2 ^ r.length) && (List.range r.length).all (parB r i) && !t.any fun x => !inB x 0 16
theorem rowB_def (p t : List (List Int)) (i : Nat) : rowB p t i = rowOK i (nth p i) (nth t i) := rfl
/-- What 'tame' has in memory between two rounds. -/
structure TF (pv tv : AV) (P T : List (List Int)) (v w : AV) (h : Hp) : Prop where
  nx : 4 ≤ h.nx
  b1 : h.bl 1 = some (.cells false false [.nil, .nil])
  b2 : h.bl 2 = some (.cells false false [pv, tv])
  b3 : h.bl 3 = some (.cells false false [v, w])
  ov : Own (e1 LI) 1 h v P
  ow : Own (e1 LI) 1 h w T
  d : Dis v w
theorem Own.keepX {α : Type} {f : α → List AV} {sz : Nat} {v x : AV} {xs : List α} {h h' : Hp} (o : Own f sz h v xs) (hn : h.nx ≤ h'.nx) (hb : ∀ i, i < h.nx → (∀ id off n sz', x = .sl id off n sz' → i ≠ id) → h'.bl i = h.bl i) (d : Dis x v) : Own f sz h' v xs := by
  rcases o with o | ⟨id, e, hi, hc⟩
  · exact .inl o
  · exact .inr ⟨id, e, by omega, (hb id hi fun id' off n sz' e' => (d _ _ _ _ _ _ _ _ e' e).symm).trans hc⟩
theorem TF.mono {pv tv v w x : AV} {P T : List (List Int)} {α : Type} {f : α → List AV} {sz : Nat} {xs : List α} (F : TF pv tv P T v w h) (hn : h.nx ≤ h'.nx) (ox : Own f sz h x xs) (hb : ∀ i, i < h.nx → (∀ id off n sz', x = .sl id off n sz' → i ≠ id) → h'.bl i = h.bl i) (dv : Dis x v) (dw : Dis x w) : TF pv tv P T v w h' :=
  ⟨Nat.le_trans F.nx hn, (hb 1 (by have := F.nx; omega) (own_ne ox F.b1)).trans F.b1, (hb 2 (by have := F.nx; omega) (own_ne ox F.b2)).trans F.b2, (hb 3 (by have := F.nx; omega) (own_ne ox F.b3)).trans F.b3, Own.keepX F.ov hn hb dv, Own.keepX F.ow hn hb dw, F.d⟩
theorem TF.alloc {pv tv v w : AV} {P T : List (List Int)} (F : TF pv tv P T v w h) (b : Blk) : TF pv tv P T v w (h.alloc b) :=
  F.mono (x := .nil) (f := e1 I) (sz := 1) (xs := []) (by simp [Hp.alloc]) (.inl ⟨rfl, rfl⟩) (fun i hi _ => by simp [Hp.alloc, show ¬ i = h.nx by omega]) (Dis.nil_l _) (Dis.nil_l _)

/-- The parents chosen so far: below 'v', ascending. -/
structure Asc (v : Int) (r : List Int) : Prop where
  len : r.length ≤ 3
  lo : ∀ j, j < r.length → 0 ≤ nth r j ∧ nth r j < v
  up : ∀ j, 0 < j → j < r.length → nth r (j - 1) < nth r j
theorem Asc.le {v v' : Int} {r : List Int} (a : Asc v r) (h : v ≤ v') : Asc v' r := ⟨a.len, fun j hj => ⟨(a.lo j hj).1, by have := (a.lo j hj).2; omega⟩, a.up⟩
theorem Asc.snoc {v : Int} {r : List Int} (a : Asc v r) (h0 : 0 ≤ v) (hl : r.length < 3) : Asc (v + 1) (r ++ [v]) := by
  have last : nth (r ++ [v]) r.length = v := by rw [nth, List.getElem?_append_right (Nat.le_refl _)]; simp
  refine ⟨by simp; omega, fun j hj => ?_, fun j h1 hj => ?_⟩
  · simp only [List.length_append, List.length_singleton] at hj
    rcases Nat.lt_or_ge j r.length with h | h
    · rw [nth_append_left _ _ _ h]; have := a.lo j h; omega
    · rw [show j = r.length by omega, last]; omega
  · simp only [List.length_append, List.length_singleton] at hj
    rw [nth_append_left _ _ _ (by omega)]
    rcases Nat.lt_or_ge j r.length with h | h
    · rw [nth_append_left _ _ _ h]; exact a.up j h1 h
    · rw [show j = r.length by omega, last]; exact (a.lo _ (by omega)).2
theorem Asc.ok {i : Nat} {r t : List Int} (a : Asc i r) (ht : t.length = 2 ^ r.length) (hb : ∀ j, j < t.length → 0 ≤ nth t j ∧ nth t j ≤ 16) : rowOK i r t = true := by
  simp only [rowOK, Bool.and_eq_true, decide_eq_true_eq, Bool.not_eq_true']
  refine ⟨⟨⟨a.len, ht⟩, all_range fun j hj => ?_⟩, ?_⟩
  · have h1 := a.lo j hj
    simp only [parB, Bool.and_eq_true, Bool.or_eq_true, beq_iff_eq, decide_eq_true_eq]
    refine ⟨by simp [inB]; omega, ?_⟩
    rcases Nat.eq_zero_or_pos j with h | h
    · exact .inl h
    · exact .inr (a.up j h hj)
  · rw [List.any_eq_false]
    intro x hx
    obtain ⟨j, hj, rfl⟩ := List.getElem_of_mem hx
    rw [← nth_getElem hj]
    have := hb j hj
    simp [inB]; omega

def TameR (m : Int) : AV → Prop := fun r => ∃ P T, netB P T = true ∧ (P.length : Int) ≤ m ∧ r = .agg [LLI P, LLI T]
theorem f30_tail (p t : List (List Int)) (pv tv : AV) (lpv : LV pv p) (ltv : LV tv t) (okp : okLL p) (okt : okLL t) (lp : p.length ≤ 12) (lt : t.length ≤ 12) (m : Int) (hm : 1 ≤ m ∧ m ≤ 10) (st : St) (h : Hp) (s1 : st 1 = I m) (s4 : st 4 = .ptr 1 0) (s5 : st 5 = .ptr 2 0)
    (hn : h.nx = 3) (b1 : h.bl 1 = some (.cells false false [.nil, .nil])) (b2 : h.bl 2 = some (.cells false false [pv, tv])) :
    WP Try.prog cfg (tailN 3 (Try.f30.body.getD .skip)) st h (fun x st h => ∃ r, RetK Try.prog (cfg.own 30) (cfg.keepNil 30) Try.f30.results.toList Try.f30.resultTypes.toList r x st h ∧ TameR m r) := by
  have ml : maxLen = 9223372036854775807 := by decide
  have klp := lpv.len
  have klt := ltv.len
  have kk := fun h h' K => k31 (h := h) (h' := h') (K := K) (p.length - 1) m (by omega)
  have hmo := modI_bounds ((p.length : Int) - 1) (n := m) (by omega)
  simp only [tailN, Try.f30, Option.getD_some]
  obtain ⟨k, hk⟩ : ∃ k : Nat, (k : Int) = 1 + modI ((p.length : Int) - 1) m := ⟨(1 + modI ((p.length : Int) - 1) m).toNat, by omega⟩
  have e3 : ∀ i, i ≠ 3 → True := fun _ _ => trivial
  simp (disch := first | (simp only [go_sem, Bool.and_self, eq_self]; done) | omega | (simp only [List.length_cons, List.length_nil]; omega)) only [go_sem, ↓reduceIte, Nat.reduceEqDiff, Nat.reduceAdd, Nat.reduceMul, Nat.reduceSub, Int.reduceToNat, Nat.reduceBEq, List.size_toArray, List.length_cons, List.length_nil, Bool.false_and, Bool.true_and, Bool.or_false, Bool.false_or, Bool.and_false, Bool.and_true, s1, s4, s5, hn, b1, b2, klp, klt, kk, ← hk]
  refine WP_cut (fun st h => st 4 = .ptr 1 0 ∧ st 5 = .ptr 2 0 ∧ st 6 = I k ∧ st 7 = .ptr 3 0 ∧ ∃ P T v w, TF pv tv P T v w h ∧ P.length = k ∧ T.length = k ∧ ∀ j, j < k → rowOK j (nth P j) (nth T j) = true) ?_ ?_
  · refine WP_for 8 k (fun i st h => st 4 = .ptr 1 0 ∧ st 5 = .ptr 2 0 ∧ st 6 = I k ∧ st 7 = .ptr 3 0 ∧ ∃ P T v w, TF pv tv P T v w h ∧ P.length = i ∧ T.length = i ∧ ∀ j, j < i → rowOK j (nth P j) (nth T j) = true) (by simp (disch := first | (simp only [go_sem, Bool.and_self, eq_self]; done) | omega | (simp only [List.length_cons, List.length_nil]; omega)) only [go_sem, ↓reduceIte, Nat.reduceEqDiff, Nat.reduceAdd, Nat.reduceMul, Nat.reduceSub, Int.reduceToNat, Nat.reduceBEq, List.size_toArray, List.length_cons, List.length_nil, Bool.false_and, Bool.true_and, Bool.or_false, Bool.false_or, Bool.and_false, Bool.and_true]) ⟨by simp (disch := first | (simp only [go_sem, Bool.and_self, eq_self]; done) | omega | (simp only [List.length_cons, List.length_nil]; omega)) only [go_sem, ↓reduceIte, Nat.reduceEqDiff, Nat.reduceAdd, Nat.reduceMul, Nat.reduceSub, Int.reduceToNat, Nat.reduceBEq, List.size_toArray, List.length_cons, List.length_nil, Bool.false_and, Bool.true_and, Bool.or_false, Bool.false_or, Bool.and_false, Bool.and_true, s4, s5], by simp (disch := first | (simp only [go_sem, Bool.and_self, eq_self]; done) | omega | (simp only [List.length_cons, List.length_nil]; omega)) only [go_sem, ↓reduceIte, Nat.reduceEqDiff, Nat.reduceAdd, Nat.reduceMul, Nat.reduceSub, Int.reduceToNat, Nat.reduceBEq, List.size_toArray, List.length_cons, List.length_nil, Bool.false_and, Bool.true_and, Bool.or_false, Bool.false_or, Bool.and_false, Bool.and_true, s4, s5], by simp (disch := first | (simp only [go_sem, Bool.and_self, eq_self]; done) | omega | (simp only [List.length_cons, List.length_nil]; omega)) only [go_sem, ↓reduceIte, Nat.reduceEqDiff, Nat.reduceAdd, Nat.reduceMul, Nat.reduceSub, Int.reduceToNat, Nat.reduceBEq, List.size_toArray, List.length_cons, List.length_nil, Bool.false_and, Bool.true_and, Bool.or_false, Bool.false_or, Bool.and_false, Bool.and_true, s4, s5], by simp (disch := first | (simp only [go_sem, Bool.and_self, eq_self]; done) | omega | (simp only [List.length_cons, List.length_nil]; omega)) only [go_sem, ↓reduceIte, Nat.reduceEqDiff, Nat.reduceAdd, Nat.reduceMul, Nat.reduceSub, Int.reduceToNat, Nat.reduceBEq, List.size_toArray, List.length_cons, List.length_nil, Bool.false_and, Bool.true_and, Bool.or_false, Bool.false_or, Bool.and_false, Bool.and_true, s4, s5], [], [], .nil, .nil, ⟨?_, ?_, ?_, ?_, .inl ⟨rfl, rfl⟩, .inl ⟨rfl, rfl⟩, Dis.nil_l _⟩, rfl, rfl, by omega⟩ ?_
    · simp (disch := first | (simp only [go_sem, Bool.and_self, eq_self]; done) | omega | (simp only [List.length_cons, List.length_nil]; omega)) only [go_sem, ↓reduceIte, Nat.reduceEqDiff, Nat.reduceAdd, Nat.reduceMul, Nat.reduceSub, Int.reduceToNat, Nat.reduceBEq, List.size_toArray, List.length_cons, List.length_nil, Bool.false_and, Bool.true_and, Bool.or_false, Bool.false_or, Bool.and_false, Bool.and_true, hn]; omega
    · simp (disch := first | (simp only [go_sem, Bool.and_self, eq_self]; done) | omega | (simp only [List.length_cons, List.length_nil]; omega)) only [go_sem, ↓reduceIte, Nat.reduceEqDiff, Nat.reduceAdd, Nat.reduceMul, Nat.reduceSub, Int.reduceToNat, Nat.reduceBEq, List.size_toArray, List.length_cons, List.length_nil, Bool.false_and, Bool.true_and, Bool.or_false, Bool.false_or, Bool.and_false, Bool.and_true, hn, b1]
    · simp (disch := first | (simp only [go_sem, Bool.and_self, eq_self]; done) | omega | (simp only [List.length_cons, List.length_nil]; omega)) only [go_sem, ↓reduceIte, Nat.reduceEqDiff, Nat.reduceAdd, Nat.reduceMul, Nat.reduceSub, Int.reduceToNat, Nat.reduceBEq, List.size_toArray, List.length_cons, List.length_nil, Bool.false_and, Bool.true_and, Bool.or_false, Bool.false_or, Bool.and_false, Bool.and_true, hn, b2]
    · simp (disch := first | (simp only [go_sem, Bool.and_self, eq_self]; done) | omega | (simp only [List.length_cons, List.length_nil]; omega)) only [go_sem, ↓reduceIte, Nat.reduceEqDiff, Nat.reduceAdd, Nat.reduceMul, Nat.reduceSub, Int.reduceToNat, Nat.reduceBEq, List.size_toArray, List.length_cons, List.length_nil, Bool.false_and, Bool.true_and, Bool.or_false, Bool.false_or, Bool.and_false, Bool.and_true, hn]
    rintro i st h hi s8 ⟨s4, s5, s6, s7, P, T, v, w, F, hPl, hTl, hok⟩
    by_cases hlt : i < k
    case neg =>
      have hik : k = i := by omega
      subst hik
      simp (disch := first | (simp only [go_sem, Bool.and_self, eq_self]; done) | omega | (simp only [List.length_cons, List.length_nil]; omega)) only [go_sem, ↓reduceIte, Nat.reduceEqDiff, Nat.reduceAdd, Nat.reduceMul, Nat.reduceSub, Int.reduceToNat, Nat.reduceBEq, List.size_toArray, List.length_cons, List.length_nil, Bool.false_and, Bool.true_and, Bool.or_false, Bool.false_or, Bool.and_false, Bool.and_true, s4, s5, s6, s7, s8, hlt]
      exact ⟨P, T, v, w, F, hPl, hTl, hok⟩
    simp (disch := first | (simp only [go_sem, Bool.and_self, eq_self]; done) | omega | (simp only [List.length_cons, List.length_nil]; omega)) only [go_sem, ↓reduceIte, Nat.reduceEqDiff, Nat.reduceAdd, Nat.reduceMul, Nat.reduceSub, Int.reduceToNat, Nat.reduceBEq, List.size_toArray, List.length_cons, List.length_nil, Bool.false_and, Bool.true_and, Bool.or_false, Bool.false_or, Bool.and_false, Bool.and_true, s4, s5, s6, s7, s8, hlt]
    refine WP_cut (fun st h => st 4 = .ptr 1 0 ∧ st 5 = .ptr 2 0 ∧ st 6 = I k ∧ st 7 = .ptr 3 0 ∧ st 8 = I i ∧ TF pv tv P T v w h ∧ ∃ x rr, st 9 = x ∧ Own (e1 I) 1 h x rr ∧ Asc i rr ∧ Dis x v ∧ Dis x w) ?_ ?_
    · refine WP_for 10 i (fun c st h => st 4 = .ptr 1 0 ∧ st 5 = .ptr 2 0 ∧ st 6 = I k ∧ st 7 = .ptr 3 0 ∧ st 8 = I i ∧ TF pv tv P T v w h ∧ ∃ x rr, st 9 = x ∧ Own (e1 I) 1 h x rr ∧ Asc c rr ∧ Dis x v ∧ Dis x w) (by simp (disch := first | (simp only [go_sem, Bool.and_self, eq_self]; done) | omega | (simp only [List.length_cons, List.length_nil]; omega)) only [go_sem, ↓reduceIte, Nat.reduceEqDiff, Nat.reduceAdd, Nat.reduceMul, Nat.reduceSub, Int.reduceToNat, Nat.reduceBEq, List.size_toArray, List.length_cons, List.length_nil, Bool.false_and, Bool.true_and, Bool.or_false, Bool.false_or, Bool.and_false, Bool.and_true]) ⟨by simp (disch := first | (simp only [go_sem, Bool.and_self, eq_self]; done) | omega | (simp only [List.length_cons, List.length_nil]; omega)) only [go_sem, ↓reduceIte, Nat.reduceEqDiff, Nat.reduceAdd, Nat.reduceMul, Nat.reduceSub, Int.reduceToNat, Nat.reduceBEq, List.size_toArray, List.length_cons, List.length_nil, Bool.false_and, Bool.true_and, Bool.or_false, Bool.false_or, Bool.and_false, Bool.and_true, s4, s5, s6, s7, s8], by simp (disch := first | (simp only [go_sem, Bool.and_self, eq_self]; done) | omega | (simp only [List.length_cons, List.length_nil]; omega)) only [go_sem, ↓reduceIte, Nat.reduceEqDiff, Nat.reduceAdd, Nat.reduceMul, Nat.reduceSub, Int.reduceToNat, Nat.reduceBEq, List.size_toArray, List.length_cons, List.length_nil, Bool.false_and, Bool.true_and, Bool.or_false, Bool.false_or, Bool.and_false, Bool.and_true, s4, s5, s6, s7, s8], by simp (disch := first | (simp only [go_sem, Bool.and_self, eq_self]; done) | omega | (simp only [List.length_cons, List.length_nil]; omega)) only [go_sem, ↓reduceIte, Nat.reduceEqDiff, Nat.reduceAdd, Nat.reduceMul, Nat.reduceSub, Int.reduceToNat, Nat.reduceBEq, List.size_toArray, List.length_cons, List.length_nil, Bool.false_and, Bool.true_and, Bool.or_false, Bool.false_or, Bool.and_false, Bool.and_true, s4, s5, s6, s7, s8], by simp (disch := first | (simp only [go_sem, Bool.and_self, eq_self]; done) | omega | (simp only [List.length_cons, List.length_nil]; omega)) only [go_sem, ↓reduceIte, Nat.reduceEqDiff, Nat.reduceAdd, Nat.reduceMul, Nat.reduceSub, Int.reduceToNat, Nat.reduceBEq, List.size_toArray, List.length_cons, List.length_nil, Bool.false_and, Bool.true_and, Bool.or_false, Bool.false_or, Bool.and_false, Bool.and_true, s4, s5, s6, s7, s8], by simp (disch := first | (simp only [go_sem, Bool.and_self, eq_self]; done) | omega | (simp only [List.length_cons, List.length_nil]; omega)) only [go_sem, ↓reduceIte, Nat.reduceEqDiff, Nat.reduceAdd, Nat.reduceMul, Nat.reduceSub, Int.reduceToNat, Nat.reduceBEq, List.size_toArray, List.length_cons, List.length_nil, Bool.false_and, Bool.true_and, Bool.or_false, Bool.false_or, Bool.and_false, Bool.and_true, s4, s5, s6, s7, s8], F, .nil, [], by simp (disch := first | (simp only [go_sem, Bool.and_self, eq_self]; done) | omega | (simp only [List.length_cons, List.length_nil]; omega)) only [go_sem, ↓reduceIte, Nat.reduceEqDiff, Nat.reduceAdd, Nat.reduceMul, Nat.reduceSub, Int.reduceToNat, Nat.reduceBEq, List.size_toArray, List.length_cons, List.length_nil, Bool.false_and, Bool.true_and, Bool.or_false, Bool.false_or, Bool.and_false, Bool.and_true], .inl ⟨rfl, rfl⟩, ⟨by simp, by simp, by simp⟩, Dis.nil_l _, Dis.nil_l _⟩ ?_
      rintro c st h hc s10 ⟨s4, s5, s6, s7, s8, F, x, rr, s9, ox, ar, dv, dw⟩
      by_cases hci : c < i
      case neg =>
        simp (disch := first | (simp only [go_sem, Bool.and_self, eq_self]; done) | omega | (simp only [List.length_cons, List.length_nil]; omega)) only [go_sem, ↓reduceIte, Nat.reduceEqDiff, Nat.reduceAdd, Nat.reduceMul, Nat.reduceSub, Int.reduceToNat, Nat.reduceBEq, List.size_toArray, List.length_cons, List.length_nil, Bool.false_and, Bool.true_and, Bool.or_false, Bool.false_or, Bool.and_false, Bool.and_true, s4, s5, s6, s7, s8, s10, hci]
        exact ⟨F, x, rr, s9, ox, ar.le (by omega), dv, dw⟩
      have b2 := F.b2
      by_cases hip : i < p.length
      case neg =>
        simp (disch := first | (simp only [go_sem, Bool.and_self, eq_self]; done) | omega | (simp only [List.length_cons, List.length_nil]; omega)) only [go_sem, ↓reduceIte, Nat.reduceEqDiff, Nat.reduceAdd, Nat.reduceMul, Nat.reduceSub, Int.reduceToNat, Nat.reduceBEq, List.size_toArray, List.length_cons, List.length_nil, Bool.false_and, Bool.true_and, Bool.or_false, Bool.false_or, Bool.and_false, Bool.and_true, s4, s5, s6, s7, s8, s10, hci, b2, klp, hip]
        exact ⟨F, x, rr, s9, ox, ar.le (by omega), dv, dw⟩
      have hpe := lpv.some hip
      rw [hpe] at b2
      have hxc := own_cell ox
      simp (disch := first | (simp only [go_sem, Bool.and_self, eq_self]; done) | omega | (simp only [List.length_cons, List.length_nil]; omega)) only [go_sem, ↓reduceIte, Nat.reduceEqDiff, Nat.reduceAdd, Nat.reduceMul, Nat.reduceSub, Int.reduceToNat, Nat.reduceBEq, List.size_toArray, List.length_cons, List.length_nil, Bool.false_and, Bool.true_and, Bool.or_false, Bool.false_or, Bool.and_false, Bool.and_true, s4, s5, s6, s7, s8, s10, hci, b2, hip]
      refine WP_cut (fun st h' => st 4 = .ptr 1 0 ∧ st 5 = .ptr 2 0 ∧ st 6 = I k ∧ st 7 = .ptr 3 0 ∧ st 8 = I i ∧ st 10 = I c ∧ st 9 = x ∧ h' = h ∧ ∃ b, st 11 = .bool b) ?_ ?_
      · refine WP_for 12 (nth p i).length (fun j st h' => st 4 = .ptr 1 0 ∧ st 5 = .ptr 2 0 ∧ st 6 = I k ∧ st 7 = .ptr 3 0 ∧ st 8 = I i ∧ st 10 = I c ∧ st 9 = x ∧ h' = h ∧ ∃ b, st 11 = .bool b) (by simp (disch := first | (simp only [go_sem, Bool.and_self, eq_self]; done) | omega | (simp only [List.length_cons, List.length_nil]; omega)) only [go_sem, ↓reduceIte, Nat.reduceEqDiff, Nat.reduceAdd, Nat.reduceMul, Nat.reduceSub, Int.reduceToNat, Nat.reduceBEq, List.size_toArray, List.length_cons, List.length_nil, Bool.false_and, Bool.true_and, Bool.or_false, Bool.false_or, Bool.and_false, Bool.and_true]) ⟨by simp (disch := first | (simp only [go_sem, Bool.and_self, eq_self]; done) | omega | (simp only [List.length_cons, List.length_nil]; omega)) only [go_sem, ↓reduceIte, Nat.reduceEqDiff, Nat.reduceAdd, Nat.reduceMul, Nat.reduceSub, Int.reduceToNat, Nat.reduceBEq, List.size_toArray, List.length_cons, List.length_nil, Bool.false_and, Bool.true_and, Bool.or_false, Bool.false_or, Bool.and_false, Bool.and_true, s4, s5, s6, s7, s8], by simp (disch := first | (simp only [go_sem, Bool.and_self, eq_self]; done) | omega | (simp only [List.length_cons, List.length_nil]; omega)) only [go_sem, ↓reduceIte, Nat.reduceEqDiff, Nat.reduceAdd, Nat.reduceMul, Nat.reduceSub, Int.reduceToNat, Nat.reduceBEq, List.size_toArray, List.length_cons, List.length_nil, Bool.false_and, Bool.true_and, Bool.or_false, Bool.false_or, Bool.and_false, Bool.and_true, s4, s5, s6, s7, s8], by simp (disch := first | (simp only [go_sem, Bool.and_self, eq_self]; done) | omega | (simp only [List.length_cons, List.length_nil]; omega)) only [go_sem, ↓reduceIte, Nat.reduceEqDiff, Nat.reduceAdd, Nat.reduceMul, Nat.reduceSub, Int.reduceToNat, Nat.reduceBEq, List.size_toArray, List.length_cons, List.length_nil, Bool.false_and, Bool.true_and, Bool.or_false, Bool.false_or, Bool.and_false, Bool.and_true, s4, s5, s6, s7, s8], by simp (disch := first | (simp only [go_sem, Bool.and_self, eq_self]; done) | omega | (simp only [List.length_cons, List.length_nil]; omega)) only [go_sem, ↓reduceIte, Nat.reduceEqDiff, Nat.reduceAdd, Nat.reduceMul, Nat.reduceSub, Int.reduceToNat, Nat.reduceBEq, List.size_toArray, List.length_cons, List.length_nil, Bool.false_and, Bool.true_and, Bool.or_false, Bool.false_or, Bool.and_false, Bool.and_true, s4, s5, s6, s7, s8], by simp (disch := first | (simp only [go_sem, Bool.and_self, eq_self]; done) | omega | (simp only [List.length_cons, List.length_nil]; omega)) only [go_sem, ↓reduceIte, Nat.reduceEqDiff, Nat.reduceAdd, Nat.reduceMul, Nat.reduceSub, Int.reduceToNat, Nat.reduceBEq, List.size_toArray, List.length_cons, List.length_nil, Bool.false_and, Bool.true_and, Bool.or_false, Bool.false_or, Bool.and_false, Bool.and_true, s4, s5, s6, s7, s8], by simp (disch := first | (simp only [go_sem, Bool.and_self, eq_self]; done) | omega | (simp only [List.length_cons, List.length_nil]; omega)) only [go_sem, ↓reduceIte, Nat.reduceEqDiff, Nat.reduceAdd, Nat.reduceMul, Nat.reduceSub, Int.reduceToNat, Nat.reduceBEq, List.size_toArray, List.length_cons, List.length_nil, Bool.false_and, Bool.true_and, Bool.or_false, Bool.false_or, Bool.and_false, Bool.and_true, s10], by simp (disch := first | (simp only [go_sem, Bool.and_self, eq_self]; done) | omega | (simp only [List.length_cons, List.length_nil]; omega)) only [go_sem, ↓reduceIte, Nat.reduceEqDiff, Nat.reduceAdd, Nat.reduceMul, Nat.reduceSub, Int.reduceToNat, Nat.reduceBEq, List.size_toArray, List.length_cons, List.length_nil, Bool.false_and, Bool.true_and, Bool.or_false, Bool.false_or, Bool.and_false, Bool.and_true, s9], rfl, false, by simp (disch := first | (simp only [go_sem, Bool.and_self, eq_self]; done) | omega | (simp only [List.length_cons, List.length_nil]; omega)) only [go_sem, ↓reduceIte, Nat.reduceEqDiff, Nat.reduceAdd, Nat.reduceMul, Nat.reduceSub, Int.reduceToNat, Nat.reduceBEq, List.size_toArray, List.length_cons, List.length_nil, Bool.false_and, Bool.true_and, Bool.or_false, Bool.false_or, Bool.and_false, Bool.and_true]⟩ ?_
        rintro j st h' hj s12 ⟨s4, s5, s6, s7, s8, s10, s9, rfl, b, s11⟩
        have hml := okp.2 _ (nth_mem hip)
        by_cases hjl : j < (nth p i).length
        case neg =>
          simp (disch := first | (simp only [go_sem, Bool.and_self, eq_self]; done) | omega | (simp only [List.length_cons, List.length_nil]; omega)) only [go_sem, ↓reduceIte, Nat.reduceEqDiff, Nat.reduceAdd, Nat.reduceMul, Nat.reduceSub, Int.reduceToNat, Nat.reduceBEq, List.size_toArray, List.length_cons, List.length_nil, Bool.false_and, Bool.true_and, Bool.or_false, Bool.false_or, Bool.and_false, Bool.and_true, s4, s5, s6, s7, s8, s10, s12, b2, hip, hjl]
          exact ⟨s9, b, s11⟩
        have k2 := fun h h'' K => k31 (h := h) (h' := h'') (K := K) (nth (nth p i) j) i (by omega)
        cases b with
        | true =>
          simp (disch := first | (simp only [go_sem, Bool.and_self, eq_self]; done) | omega | (simp only [List.length_cons, List.length_nil]; omega)) only [go_sem, ↓reduceIte, Nat.reduceEqDiff, Nat.reduceAdd, Nat.reduceMul, Nat.reduceSub, Int.reduceToNat, Nat.reduceBEq, List.size_toArray, List.length_cons, List.length_nil, Bool.false_and, Bool.true_and, Bool.or_false, Bool.false_or, Bool.and_false, Bool.and_true, s4, s5, s6, s7, s8, s10, s11, s12, b2, hip, hjl]
          rw [ForK_normal]
          exact ⟨hjl, by simp (disch := first | (simp only [go_sem, Bool.and_self, eq_self]; done) | omega | (simp only [List.length_cons, List.length_nil]; omega)) only [go_sem, ↓reduceIte, Nat.reduceEqDiff, Nat.reduceAdd, Nat.reduceMul, Nat.reduceSub, Int.reduceToNat, Nat.reduceBEq, List.size_toArray, List.length_cons, List.length_nil, Bool.false_and, Bool.true_and, Bool.or_false, Bool.false_or, Bool.and_false, Bool.and_true, s12], by simp (disch := first | (simp only [go_sem, Bool.and_self, eq_self]; done) | omega | (simp only [List.length_cons, List.length_nil]; omega)) only [go_sem, ↓reduceIte, Nat.reduceEqDiff, Nat.reduceAdd, Nat.reduceMul, Nat.reduceSub, Int.reduceToNat, Nat.reduceBEq, List.size_toArray, List.length_cons, List.length_nil, Bool.false_and, Bool.true_and, Bool.or_false, Bool.false_or, Bool.and_false, Bool.and_true, s4], by simp (disch := first | (simp only [go_sem, Bool.and_self, eq_self]; done) | omega | (simp only [List.length_cons, List.length_nil]; omega)) only [go_sem, ↓reduceIte, Nat.reduceEqDiff, Nat.reduceAdd, Nat.reduceMul, Nat.reduceSub, Int.reduceToNat, Nat.reduceBEq, List.size_toArray, List.length_cons, List.length_nil, Bool.false_and, Bool.true_and, Bool.or_false, Bool.false_or, Bool.and_false, Bool.and_true, s5], by simp (disch := first | (simp only [go_sem, Bool.and_self, eq_self]; done) | omega | (simp only [List.length_cons, List.length_nil]; omega)) only [go_sem, ↓reduceIte, Nat.reduceEqDiff, Nat.reduceAdd, Nat.reduceMul, Nat.reduceSub, Int.reduceToNat, Nat.reduceBEq, List.size_toArray, List.length_cons, List.length_nil, Bool.false_and, Bool.true_and, Bool.or_false, Bool.false_or, Bool.and_false, Bool.and_true, s6], by simp (disch := first | (simp only [go_sem, Bool.and_self, eq_self]; done) | omega | (simp only [List.length_cons, List.length_nil]; omega)) only [go_sem, ↓reduceIte, Nat.reduceEqDiff, Nat.reduceAdd, Nat.reduceMul, Nat.reduceSub, Int.reduceToNat, Nat.reduceBEq, List.size_toArray, List.length_cons, List.length_nil, Bool.false_and, Bool.true_and, Bool.or_false, Bool.false_or, Bool.and_false, Bool.and_true, s7], by simp (disch := first | (simp only [go_sem, Bool.and_self, eq_self]; done) | omega | (simp only [List.length_cons, List.length_nil]; omega)) only [go_sem, ↓reduceIte, Nat.reduceEqDiff, Nat.reduceAdd, Nat.reduceMul, Nat.reduceSub, Int.reduceToNat, Nat.reduceBEq, List.size_toArray, List.length_cons, List.length_nil, Bool.false_and, Bool.true_and, Bool.or_false, Bool.false_or, Bool.and_false, Bool.and_true, s8], by simp (disch := first | (simp only [go_sem, Bool.and_self, eq_self]; done) | omega | (simp only [List.length_cons, List.length_nil]; omega)) only [go_sem, ↓reduceIte, Nat.reduceEqDiff, Nat.reduceAdd, Nat.reduceMul, Nat.reduceSub, Int.reduceToNat, Nat.reduceBEq, List.size_toArray, List.length_cons, List.length_nil, Bool.false_and, Bool.true_and, Bool.or_false, Bool.false_or, Bool.and_false, Bool.and_true, s10], by simp (disch := first | (simp only [go_sem, Bool.and_self, eq_self]; done) | omega | (simp only [List.length_cons, List.length_nil]; omega)) only [go_sem, ↓reduceIte, Nat.reduceEqDiff, Nat.reduceAdd, Nat.reduceMul, Nat.reduceSub, Int.reduceToNat, Nat.reduceBEq, List.size_toArray, List.length_cons, List.length_nil, Bool.false_and, Bool.true_and, Bool.or_false, Bool.false_or, Bool.and_false, Bool.and_true, s9], rfl, true, by simp (disch := first | (simp only [go_sem, Bool.and_self, eq_self]; done) | omega | (simp only [List.length_cons, List.length_nil]; omega)) only [go_sem, ↓reduceIte, Nat.reduceEqDiff, Nat.reduceAdd, Nat.reduceMul, Nat.reduceSub, Int.reduceToNat, Nat.reduceBEq, List.size_toArray, List.length_cons, List.length_nil, Bool.false_and, Bool.true_and, Bool.or_false, Bool.false_or, Bool.and_false, Bool.and_true]⟩
        | false =>
          simp (disch := first | (simp only [go_sem, Bool.and_self, eq_self]; done) | omega | (simp only [List.length_cons, List.length_nil]; omega)) only [go_sem, ↓reduceIte, Nat.reduceEqDiff, Nat.reduceAdd, Nat.reduceMul, Nat.reduceSub, Int.reduceToNat, Nat.reduceBEq, List.size_toArray, List.length_cons, List.length_nil, Bool.false_and, Bool.true_and, Bool.or_false, Bool.false_or, Bool.and_false, Bool.and_true, s4, s5, s6, s7, s8, s10, s11, s12, b2, hip, hjl, k2]
          rw [ForK_normal]
          exact ⟨hjl, by simp (disch := first | (simp only [go_sem, Bool.and_self, eq_self]; done) | omega | (simp only [List.length_cons, List.length_nil]; omega)) only [go_sem, ↓reduceIte, Nat.reduceEqDiff, Nat.reduceAdd, Nat.reduceMul, Nat.reduceSub, Int.reduceToNat, Nat.reduceBEq, List.size_toArray, List.length_cons, List.length_nil, Bool.false_and, Bool.true_and, Bool.or_false, Bool.false_or, Bool.and_false, Bool.and_true, s12], by simp (disch := first | (simp only [go_sem, Bool.and_self, eq_self]; done) | omega | (simp only [List.length_cons, List.length_nil]; omega)) only [go_sem, ↓reduceIte, Nat.reduceEqDiff, Nat.reduceAdd, Nat.reduceMul, Nat.reduceSub, Int.reduceToNat, Nat.reduceBEq, List.size_toArray, List.length_cons, List.length_nil, Bool.false_and, Bool.true_and, Bool.or_false, Bool.false_or, Bool.and_false, Bool.and_true, s4], by simp (disch := first | (simp only [go_sem, Bool.and_self, eq_self]; done) | omega | (simp only [List.length_cons, List.length_nil]; omega)) only [go_sem, ↓reduceIte, Nat.reduceEqDiff, Nat.reduceAdd, Nat.reduceMul, Nat.reduceSub, Int.reduceToNat, Nat.reduceBEq, List.size_toArray, List.length_cons, List.length_nil, Bool.false_and, Bool.true_and, Bool.or_false, Bool.false_or, Bool.and_false, Bool.and_true, s5], by simp (disch := first | (simp only [go_sem, Bool.and_self, eq_self]; done) | omega | (simp only [List.length_cons, List.length_nil]; omega)) only [go_sem, ↓reduceIte, Nat.reduceEqDiff, Nat.reduceAdd, Nat.reduceMul, Nat.reduceSub, Int.reduceToNat, Nat.reduceBEq, List.size_toArray, List.length_cons, List.length_nil, Bool.false_and, Bool.true_and, Bool.or_false, Bool.false_or, Bool.and_false, Bool.and_true, s6], by simp (disch := first | (simp only [go_sem, Bool.and_self, eq_self]; done) | omega | (simp only [List.length_cons, List.length_nil]; omega)) only [go_sem, ↓reduceIte, Nat.reduceEqDiff, Nat.reduceAdd, Nat.reduceMul, Nat.reduceSub, Int.reduceToNat, Nat.reduceBEq, List.size_toArray, List.length_cons, List.length_nil, Bool.false_and, Bool.true_and, Bool.or_false, Bool.false_or, Bool.and_false, Bool.and_true, s7], by simp (disch := first | (simp only [go_sem, Bool.and_self, eq_self]; done) | omega | (simp only [List.length_cons, List.length_nil]; omega)) only [go_sem, ↓reduceIte, Nat.reduceEqDiff, Nat.reduceAdd, Nat.reduceMul, Nat.reduceSub, Int.reduceToNat, Nat.reduceBEq, List.size_toArray, List.length_cons, List.length_nil, Bool.false_and, Bool.true_and, Bool.or_false, Bool.false_or, Bool.and_false, Bool.and_true, s8], by simp (disch := first | (simp only [go_sem, Bool.and_self, eq_self]; done) | omega | (simp only [List.length_cons, List.length_nil]; omega)) only [go_sem, ↓reduceIte, Nat.reduceEqDiff, Nat.reduceAdd, Nat.reduceMul, Nat.reduceSub, Int.reduceToNat, Nat.reduceBEq, List.size_toArray, List.length_cons, List.length_nil, Bool.false_and, Bool.true_and, Bool.or_false, Bool.false_or, Bool.and_false, Bool.and_true, s10], by simp (disch := first | (simp only [go_sem, Bool.and_self, eq_self]; done) | omega | (simp only [List.length_cons, List.length_nil]; omega)) only [go_sem, ↓reduceIte, Nat.reduceEqDiff, Nat.reduceAdd, Nat.reduceMul, Nat.reduceSub, Int.reduceToNat, Nat.reduceBEq, List.size_toArray, List.length_cons, List.length_nil, Bool.false_and, Bool.true_and, Bool.or_false, Bool.false_or, Bool.and_false, Bool.and_true, s9], rfl, decide (modI (nth (nth p i) j) i = c), by simp (disch := first | (simp only [go_sem, Bool.and_self, eq_self]; done) | omega | (simp only [List.length_cons, List.length_nil]; omega)) only [go_sem, ↓reduceIte, Nat.reduceEqDiff, Nat.reduceAdd, Nat.reduceMul, Nat.reduceSub, Int.reduceToNat, Nat.reduceBEq, List.size_toArray, List.length_cons, List.length_nil, Bool.false_and, Bool.true_and, Bool.or_false, Bool.false_or, Bool.and_false, Bool.and_true]⟩
      rintro st h' ⟨s4, s5, s6, s7, s8, s10, s9, rfl, b, s11⟩
      have klen := fun lim => ox.lenB (e := 3) h' lim
      cases b with
      | false =>
        simp (disch := first | (simp only [go_sem, Bool.and_self, eq_self]; done) | omega | (simp only [List.length_cons, List.length_nil]; omega)) only [go_sem, ↓reduceIte, Nat.reduceEqDiff, Nat.reduceAdd, Nat.reduceMul, Nat.reduceSub, Int.reduceToNat, Nat.reduceBEq, List.size_toArray, List.length_cons, List.length_nil, Bool.false_and, Bool.true_and, Bool.or_false, Bool.false_or, Bool.and_false, Bool.and_true, s4, s5, s6, s7, s8, s10, s11]
        rw [ForK_normal]
        exact ⟨by omega, by simp (disch := first | (simp only [go_sem, Bool.and_self, eq_self]; done) | omega | (simp only [List.length_cons, List.length_nil]; omega)) only [go_sem, ↓reduceIte, Nat.reduceEqDiff, Nat.reduceAdd, Nat.reduceMul, Nat.reduceSub, Int.reduceToNat, Nat.reduceBEq, List.size_toArray, List.length_cons, List.length_nil, Bool.false_and, Bool.true_and, Bool.or_false, Bool.false_or, Bool.and_false, Bool.and_true, s10], by simp (disch := first | (simp only [go_sem, Bool.and_self, eq_self]; done) | omega | (simp only [List.length_cons, List.length_nil]; omega)) only [go_sem, ↓reduceIte, Nat.reduceEqDiff, Nat.reduceAdd, Nat.reduceMul, Nat.reduceSub, Int.reduceToNat, Nat.reduceBEq, List.size_toArray, List.length_cons, List.length_nil, Bool.false_and, Bool.true_and, Bool.or_false, Bool.false_or, Bool.and_false, Bool.and_true, s4], by simp (disch := first | (simp only [go_sem, Bool.and_self, eq_self]; done) | omega | (simp only [List.length_cons, List.length_nil]; omega)) only [go_sem, ↓reduceIte, Nat.reduceEqDiff, Nat.reduceAdd, Nat.reduceMul, Nat.reduceSub, Int.reduceToNat, Nat.reduceBEq, List.size_toArray, List.length_cons, List.length_nil, Bool.false_and, Bool.true_and, Bool.or_false, Bool.false_or, Bool.and_false, Bool.and_true, s5], by simp (disch := first | (simp only [go_sem, Bool.and_self, eq_self]; done) | omega | (simp only [List.length_cons, List.length_nil]; omega)) only [go_sem, ↓reduceIte, Nat.reduceEqDiff, Nat.reduceAdd, Nat.reduceMul, Nat.reduceSub, Int.reduceToNat, Nat.reduceBEq, List.size_toArray, List.length_cons, List.length_nil, Bool.false_and, Bool.true_and, Bool.or_false, Bool.false_or, Bool.and_false, Bool.and_true, s6], by simp (disch := first | (simp only [go_sem, Bool.and_self, eq_self]; done) | omega | (simp only [List.length_cons, List.length_nil]; omega)) only [go_sem, ↓reduceIte, Nat.reduceEqDiff, Nat.reduceAdd, Nat.reduceMul, Nat.reduceSub, Int.reduceToNat, Nat.reduceBEq, List.size_toArray, List.length_cons, List.length_nil, Bool.false_and, Bool.true_and, Bool.or_false, Bool.false_or, Bool.and_false, Bool.and_true, s7], by simp (disch := first | (simp only [go_sem, Bool.and_self, eq_self]; done) | omega | (simp only [List.length_cons, List.length_nil]; omega)) only [go_sem, ↓reduceIte, Nat.reduceEqDiff, Nat.reduceAdd, Nat.reduceMul, Nat.reduceSub, Int.reduceToNat, Nat.reduceBEq, List.size_toArray, List.length_cons, List.length_nil, Bool.false_and, Bool.true_and, Bool.or_false, Bool.false_or, Bool.and_false, Bool.and_true, s8], F, x, rr, by simp (disch := first | (simp only [go_sem, Bool.and_self, eq_self]; done) | omega | (simp only [List.length_cons, List.length_nil]; omega)) only [go_sem, ↓reduceIte, Nat.reduceEqDiff, Nat.reduceAdd, Nat.reduceMul, Nat.reduceSub, Int.reduceToNat, Nat.reduceBEq, List.size_toArray, List.length_cons, List.length_nil, Bool.false_and, Bool.true_and, Bool.or_false, Bool.false_or, Bool.and_false, Bool.and_true, s9], ox, ar.le (by omega), dv, dw⟩
      | true =>
      by_cases hr3 : rr.length < 3
      case neg =>
        have hr3' : ¬ (rr.length : Int) < 3 := by omega
        simp (disch := first | (simp only [go_sem, Bool.and_self, eq_self]; done) | omega | (simp only [List.length_cons, List.length_nil]; omega)) only [go_sem, ↓reduceIte, Nat.reduceEqDiff, Nat.reduceAdd, Nat.reduceMul, Nat.reduceSub, Int.reduceToNat, Nat.reduceBEq, List.size_toArray, List.length_cons, List.length_nil, Bool.false_and, Bool.true_and, Bool.or_false, Bool.false_or, Bool.and_false, Bool.and_true, s4, s5, s6, s7, s8, s9, s10, s11, klen, hr3']
        rw [ForK_normal]
        exact ⟨by omega, by simp (disch := first | (simp only [go_sem, Bool.and_self, eq_self]; done) | omega | (simp only [List.length_cons, List.length_nil]; omega)) only [go_sem, ↓reduceIte, Nat.reduceEqDiff, Nat.reduceAdd, Nat.reduceMul, Nat.reduceSub, Int.reduceToNat, Nat.reduceBEq, List.size_toArray, List.length_cons, List.length_nil, Bool.false_and, Bool.true_and, Bool.or_false, Bool.false_or, Bool.and_false, Bool.and_true, s10], by simp (disch := first | (simp only [go_sem, Bool.and_self, eq_self]; done) | omega | (simp only [List.length_cons, List.length_nil]; omega)) only [go_sem, ↓reduceIte, Nat.reduceEqDiff, Nat.reduceAdd, Nat.reduceMul, Nat.reduceSub, Int.reduceToNat, Nat.reduceBEq, List.size_toArray, List.length_cons, List.length_nil, Bool.false_and, Bool.true_and, Bool.or_false, Bool.false_or, Bool.and_false, Bool.and_true, s4], by simp (disch := first | (simp only [go_sem, Bool.and_self, eq_self]; done) | omega | (simp only [List.length_cons, List.length_nil]; omega)) only [go_sem, ↓reduceIte, Nat.reduceEqDiff, Nat.reduceAdd, Nat.reduceMul, Nat.reduceSub, Int.reduceToNat, Nat.reduceBEq, List.size_toArray, List.length_cons, List.length_nil, Bool.false_and, Bool.true_and, Bool.or_false, Bool.false_or, Bool.and_false, Bool.and_true, s5], by simp (disch := first | (simp only [go_sem, Bool.and_self, eq_self]; done) | omega | (simp only [List.length_cons, List.length_nil]; omega)) only [go_sem, ↓reduceIte, Nat.reduceEqDiff, Nat.reduceAdd, Nat.reduceMul, Nat.reduceSub, Int.reduceToNat, Nat.reduceBEq, List.size_toArray, List.length_cons, List.length_nil, Bool.false_and, Bool.true_and, Bool.or_false, Bool.false_or, Bool.and_false, Bool.and_true, s6], by simp (disch := first | (simp only [go_sem, Bool.and_self, eq_self]; done) | omega | (simp only [List.length_cons, List.length_nil]; omega)) only [go_sem, ↓reduceIte, Nat.reduceEqDiff, Nat.reduceAdd, Nat.reduceMul, Nat.reduceSub, Int.reduceToNat, Nat.reduceBEq, List.size_toArray, List.length_cons, List.length_nil, Bool.false_and, Bool.true_and, Bool.or_false, Bool.false_or, Bool.and_false, Bool.and_true, s7], by simp (disch := first | (simp only [go_sem, Bool.and_self, eq_self]; done) | omega | (simp only [List.length_cons, List.length_nil]; omega)) only [go_sem, ↓reduceIte, Nat.reduceEqDiff, Nat.reduceAdd, Nat.reduceMul, Nat.reduceSub, Int.reduceToNat, Nat.reduceBEq, List.size_toArray, List.length_cons, List.length_nil, Bool.false_and, Bool.true_and, Bool.or_false, Bool.false_or, Bool.and_false, Bool.and_true, s8], F, x, rr, by simp (disch := first | (simp only [go_sem, Bool.and_self, eq_self]; done) | omega | (simp only [List.length_cons, List.length_nil]; omega)) only [go_sem, ↓reduceIte, Nat.reduceEqDiff, Nat.reduceAdd, Nat.reduceMul, Nat.reduceSub, Int.reduceToNat, Nat.reduceBEq, List.size_toArray, List.length_cons, List.length_nil, Bool.false_and, Bool.true_and, Bool.or_false, Bool.false_or, Bool.and_false, Bool.and_true, s9], ox, ar.le (by omega), dv, dw⟩
      have happ := app_one (P := Try.prog) ox 3 8 (I 0) (c : Int) isz3 ibytes3 izero3 rfl (by omega) (by omega)
      have hbs := bsB_one (P := Try.prog) 3 (I c) (I c) (I 0) h' isz3 izero3 rfl rfl rfl rfl rfl rfl rfl
      have hr3' : (rr.length : Int) < 3 := by omega
      simp (disch := first | (simp only [go_sem, Bool.and_self, eq_self]; done) | omega | (simp only [List.length_cons, List.length_nil]; omega)) only [go_sem, ↓reduceIte, Nat.reduceEqDiff, Nat.reduceAdd, Nat.reduceMul, Nat.reduceSub, Int.reduceToNat, Nat.reduceBEq, List.size_toArray, List.length_cons, List.length_nil, Bool.false_and, Bool.true_and, Bool.or_false, Bool.false_or, Bool.and_false, Bool.and_true, s4, s5, s6, s7, s8, s9, s10, s11, klen, hr3', hbs, happ]
      rw [ForK_normal]
      have hdv := Own.dis (sz := 1) F.ov (rr ++ [(c : Int)]).length 1
      have hdw := Own.dis (sz := 1) F.ow (rr ++ [(c : Int)]).length 1
      refine ⟨by omega, by simp (disch := first | (simp only [go_sem, Bool.and_self, eq_self]; done) | omega | (simp only [List.length_cons, List.length_nil]; omega)) only [go_sem, ↓reduceIte, Nat.reduceEqDiff, Nat.reduceAdd, Nat.reduceMul, Nat.reduceSub, Int.reduceToNat, Nat.reduceBEq, List.size_toArray, List.length_cons, List.length_nil, Bool.false_and, Bool.true_and, Bool.or_false, Bool.false_or, Bool.and_false, Bool.and_true, s10], by simp (disch := first | (simp only [go_sem, Bool.and_self, eq_self]; done) | omega | (simp only [List.length_cons, List.length_nil]; omega)) only [go_sem, ↓reduceIte, Nat.reduceEqDiff, Nat.reduceAdd, Nat.reduceMul, Nat.reduceSub, Int.reduceToNat, Nat.reduceBEq, List.size_toArray, List.length_cons, List.length_nil, Bool.false_and, Bool.true_and, Bool.or_false, Bool.false_or, Bool.and_false, Bool.and_true, s4], by simp (disch := first | (simp only [go_sem, Bool.and_self, eq_self]; done) | omega | (simp only [List.length_cons, List.length_nil]; omega)) only [go_sem, ↓reduceIte, Nat.reduceEqDiff, Nat.reduceAdd, Nat.reduceMul, Nat.reduceSub, Int.reduceToNat, Nat.reduceBEq, List.size_toArray, List.length_cons, List.length_nil, Bool.false_and, Bool.true_and, Bool.or_false, Bool.false_or, Bool.and_false, Bool.and_true, s5], by simp (disch := first | (simp only [go_sem, Bool.and_self, eq_self]; done) | omega | (simp only [List.length_cons, List.length_nil]; omega)) only [go_sem, ↓reduceIte, Nat.reduceEqDiff, Nat.reduceAdd, Nat.reduceMul, Nat.reduceSub, Int.reduceToNat, Nat.reduceBEq, List.size_toArray, List.length_cons, List.length_nil, Bool.false_and, Bool.true_and, Bool.or_false, Bool.false_or, Bool.and_false, Bool.and_true, s6], by simp (disch := first | (simp only [go_sem, Bool.and_self, eq_self]; done) | omega | (simp only [List.length_cons, List.length_nil]; omega)) only [go_sem, ↓reduceIte, Nat.reduceEqDiff, Nat.reduceAdd, Nat.reduceMul, Nat.reduceSub, Int.reduceToNat, Nat.reduceBEq, List.size_toArray, List.length_cons, List.length_nil, Bool.false_and, Bool.true_and, Bool.or_false, Bool.false_or, Bool.and_false, Bool.and_true, s7], by simp (disch := first | (simp only [go_sem, Bool.and_self, eq_self]; done) | omega | (simp only [List.length_cons, List.length_nil]; omega)) only [go_sem, ↓reduceIte, Nat.reduceEqDiff, Nat.reduceAdd, Nat.reduceMul, Nat.reduceSub, Int.reduceToNat, Nat.reduceBEq, List.size_toArray, List.length_cons, List.length_nil, Bool.false_and, Bool.true_and, Bool.or_false, Bool.false_or, Bool.and_false, Bool.and_true, s8], F.mono (by rw [appH_nx]; omega) ox (fun b hb hne => appH_bl _ _ _ b hb hne) dv dw, _, rr ++ [(c : Int)], by simp (disch := first | (simp only [go_sem, Bool.and_self, eq_self]; done) | omega | (simp only [List.length_cons, List.length_nil]; omega)) only [go_sem, ↓reduceIte, Nat.reduceEqDiff, Nat.reduceAdd, Nat.reduceMul, Nat.reduceSub, Int.reduceToNat, Nat.reduceBEq, List.size_toArray, List.length_cons, List.length_nil, Bool.false_and, Bool.true_and, Bool.or_false, Bool.false_or, Bool.and_false, Bool.and_true], Own.app _ _ _, ?_, hdv, hdw⟩
      have := ar.snoc (by omega) hr3
      simpa using this
    rintro st h ⟨s4, s5, s6, s7, s8, F, x, rr, s9, ox, ar, dv, dw⟩
    have klen := fun h lim => ox.lenB (e := 3) h lim
    have hrl := ar.len
    have esh := fun t => shl_one (P := Try.prog) t rr.length (by omega)
    have hN : 2 ^ rr.length ≤ 8 := Nat.pow_le_pow_right (n := 2) (by decide) hrl
    obtain ⟨N, hNe⟩ : ∃ N, N = 2 ^ rr.length := ⟨_, rfl⟩
    rw [← hNe] at esh hN
    have hmk := fun h => makeB_int (P := Try.prog) (h := h) 3 (N : Int) isz3 ibytes3 izero3 (by omega) (by omega)
    have hxc := own_cell ox
    simp (disch := first | (simp only [go_sem, Bool.and_self, eq_self]; done) | omega | (simp only [List.length_cons, List.length_nil]; omega)) only [go_sem, ↓reduceIte, Nat.reduceEqDiff, Nat.reduceAdd, Nat.reduceMul, Nat.reduceSub, Int.reduceToNat, Nat.reduceBEq, List.size_toArray, List.length_cons, List.length_nil, Bool.false_and, Bool.true_and, Bool.or_false, Bool.false_or, Bool.and_false, Bool.and_true, s4, s5, s6, s7, s8, s9, klen, esh, hmk, Int.toNat_natCast]
    have ydv : Dis (.sl h.nx 0 N 1) v := F.ov.dis N 1
    have ydw : Dis (.sl h.nx 0 N 1) w := F.ow.dis N 1
    have ydx : Dis (.sl h.nx 0 N 1) x := ox.dis N 1
    have hnx4 := F.nx
    obtain ⟨id, hid⟩ : ∃ id, id = h.nx := ⟨_, rfl⟩
    rw [← hid] at ydv ydw ydx
    refine WP_cut (fun st h => st 4 = .ptr 1 0 ∧ st 5 = .ptr 2 0 ∧ st 6 = I k ∧ st 7 = .ptr 3 0 ∧ st 8 = I i ∧ st 9 = x ∧ st 13 = .sl id 0 N 1 ∧ TF pv tv P T v w h ∧ Own (e1 I) 1 h x rr ∧ ∃ ts : List Int, ts.length = N ∧ id < h.nx ∧ h.bl id = some (.cells false true (ts.flatMap (e1 I))) ∧ ∀ j, j < N → 0 ≤ nth ts j ∧ nth ts j ≤ 16) ?_ ?_
    · refine WP_for 14 N (fun n st h => st 4 = .ptr 1 0 ∧ st 5 = .ptr 2 0 ∧ st 6 = I k ∧ st 7 = .ptr 3 0 ∧ st 8 = I i ∧ st 9 = x ∧ st 13 = .sl id 0 N 1 ∧ TF pv tv P T v w h ∧ Own (e1 I) 1 h x rr ∧ ∃ ts : List Int, ts.length = N ∧ id < h.nx ∧ h.bl id = some (.cells false true (ts.flatMap (e1 I))) ∧ ∀ j, j < n → 0 ≤ nth ts j ∧ nth ts j ≤ 16) (by simp (disch := first | (simp only [go_sem, Bool.and_self, eq_self]; done) | omega | (simp only [List.length_cons, List.length_nil]; omega)) only [go_sem, ↓reduceIte, Nat.reduceEqDiff, Nat.reduceAdd, Nat.reduceMul, Nat.reduceSub, Int.reduceToNat, Nat.reduceBEq, List.size_toArray, List.length_cons, List.length_nil, Bool.false_and, Bool.true_and, Bool.or_false, Bool.false_or, Bool.and_false, Bool.and_true]) ⟨by simp (disch := first | (simp only [go_sem, Bool.and_self, eq_self]; done) | omega | (simp only [List.length_cons, List.length_nil]; omega)) only [go_sem, ↓reduceIte, Nat.reduceEqDiff, Nat.reduceAdd, Nat.reduceMul, Nat.reduceSub, Int.reduceToNat, Nat.reduceBEq, List.size_toArray, List.length_cons, List.length_nil, Bool.false_and, Bool.true_and, Bool.or_false, Bool.false_or, Bool.and_false, Bool.and_true, s4, s5, s6, s7, s8], by simp (disch := first | (simp only [go_sem, Bool.and_self, eq_self]; done) | omega | (simp only [List.length_cons, List.length_nil]; omega)) only [go_sem, ↓reduceIte, Nat.reduceEqDiff, Nat.reduceAdd, Nat.reduceMul, Nat.reduceSub, Int.reduceToNat, Nat.reduceBEq, List.size_toArray, List.length_cons, List.length_nil, Bool.false_and, Bool.true_and, Bool.or_false, Bool.false_or, Bool.and_false, Bool.and_true, s4, s5, s6, s7, s8], by simp (disch := first | (simp only [go_sem, Bool.and_self, eq_self]; done) | omega | (simp only [List.length_cons, List.length_nil]; omega)) only [go_sem, ↓reduceIte, Nat.reduceEqDiff, Nat.reduceAdd, Nat.reduceMul, Nat.reduceSub, Int.reduceToNat, Nat.reduceBEq, List.size_toArray, List.length_cons, List.length_nil, Bool.false_and, Bool.true_and, Bool.or_false, Bool.false_or, Bool.and_false, Bool.and_true, s4, s5, s6, s7, s8], by simp (disch := first | (simp only [go_sem, Bool.and_self, eq_self]; done) | omega | (simp only [List.length_cons, List.length_nil]; omega)) only [go_sem, ↓reduceIte, Nat.reduceEqDiff, Nat.reduceAdd, Nat.reduceMul, Nat.reduceSub, Int.reduceToNat, Nat.reduceBEq, List.size_toArray, List.length_cons, List.length_nil, Bool.false_and, Bool.true_and, Bool.or_false, Bool.false_or, Bool.and_false, Bool.and_true, s4, s5, s6, s7, s8], by simp (disch := first | (simp only [go_sem, Bool.and_self, eq_self]; done) | omega | (simp only [List.length_cons, List.length_nil]; omega)) only [go_sem, ↓reduceIte, Nat.reduceEqDiff, Nat.reduceAdd, Nat.reduceMul, Nat.reduceSub, Int.reduceToNat, Nat.reduceBEq, List.size_toArray, List.length_cons, List.length_nil, Bool.false_and, Bool.true_and, Bool.or_false, Bool.false_or, Bool.and_false, Bool.and_true, s4, s5, s6, s7, s8], by simp (disch := first | (simp only [go_sem, Bool.and_self, eq_self]; done) | omega | (simp only [List.length_cons, List.length_nil]; omega)) only [go_sem, ↓reduceIte, Nat.reduceEqDiff, Nat.reduceAdd, Nat.reduceMul, Nat.reduceSub, Int.reduceToNat, Nat.reduceBEq, List.size_toArray, List.length_cons, List.length_nil, Bool.false_and, Bool.true_and, Bool.or_false, Bool.false_or, Bool.and_false, Bool.and_true, s9], by simp (disch := first | (simp only [go_sem, Bool.and_self, eq_self]; done) | omega | (simp only [List.length_cons, List.length_nil]; omega)) only [go_sem, ↓reduceIte, Nat.reduceEqDiff, Nat.reduceAdd, Nat.reduceMul, Nat.reduceSub, Int.reduceToNat, Nat.reduceBEq, List.size_toArray, List.length_cons, List.length_nil, Bool.false_and, Bool.true_and, Bool.or_false, Bool.false_or, Bool.and_false, Bool.and_true, hid], F.alloc _, ?_, List.replicate N 0, by simp, by simp (disch := first | (simp only [go_sem, Bool.and_self, eq_self]; done) | omega | (simp only [List.length_cons, List.length_nil]; omega)) only [go_sem, ↓reduceIte, Nat.reduceEqDiff, Nat.reduceAdd, Nat.reduceMul, Nat.reduceSub, Int.reduceToNat, Nat.reduceBEq, List.size_toArray, List.length_cons, List.length_nil, Bool.false_and, Bool.true_and, Bool.or_false, Bool.false_or, Bool.and_false, Bool.and_true, hid]; omega, by simp (disch := first | (simp only [go_sem, Bool.and_self, eq_self]; done) | omega | (simp only [List.length_cons, List.length_nil]; omega)) only [go_sem, ↓reduceIte, Nat.reduceEqDiff, Nat.reduceAdd, Nat.reduceMul, Nat.reduceSub, Int.reduceToNat, Nat.reduceBEq, List.size_toArray, List.length_cons, List.length_nil, Bool.false_and, Bool.true_and, Bool.or_false, Bool.false_or, Bool.and_false, Bool.and_true, hid], by omega⟩ ?_
      · exact ox.mono (by simp [Hp.alloc]) fun i hi => by simp [Hp.alloc, show ¬ i = h.nx by omega]
      rintro n st h hn s14 ⟨s4, s5, s6, s7, s8, s9, s13, F, ox, ts, tsl, hidn, bid, hts⟩
      by_cases hnN : n < N
      case neg =>
        have hnn : N = n := by omega
        simp (disch := first | (simp only [go_sem, Bool.and_self, eq_self]; done) | omega | (simp only [List.length_cons, List.length_nil]; omega)) only [go_sem, ↓reduceIte, Nat.reduceEqDiff, Nat.reduceAdd, Nat.reduceMul, Nat.reduceSub, Int.reduceToNat, Nat.reduceBEq, List.size_toArray, List.length_cons, List.length_nil, Bool.false_and, Bool.true_and, Bool.or_false, Bool.false_or, Bool.and_false, Bool.and_true, s4, s5, s6, s7, s8, s13, s14, hnN]
        exact ⟨s9, F, ox, ts, tsl, hidn, bid, fun j hj => hts j (by omega)⟩
      have b2 := F.b2
      have i2 : ¬ 2 = id := fun h => by rw [← h] at bid; rw [b2] at bid; cases bid
      have put1 : ∀ (h : Hp) (ts : List Int) (b : Blk), TF pv tv P T v w h → Own (e1 I) 1 h x rr → id < h.nx → h.bl id = some (.cells false true (ts.flatMap (e1 I))) → ts.length = N → TF pv tv P T v w (h.put id (some b)) ∧ Own (e1 I) 1 (h.put id (some b)) x rr := fun h ts b F ox hidn bid tsl => by
        have hb : ∀ i, i < h.nx → (∀ id' off n sz', AV.sl id 0 N 1 = .sl id' off n sz' → i ≠ id') → (h.put id (some b)).bl i = h.bl i := fun i _ hne => by simp [Hp.put, hne _ _ _ _ rfl]
        have oy : Own (e1 I) 1 h (.sl id 0 N 1) ts := .inr ⟨id, by rw [tsl], hidn, bid⟩
        exact ⟨F.mono (Nat.le_refl _) oy hb ydv ydw, Own.keepX ox (Nat.le_refl _) hb ydx⟩
      have fin : ∀ (u : Int), 0 ≤ u ∧ u ≤ 16 → (ts.set n u).length = N ∧ ∀ j, j < n + 1 → 0 ≤ nth (ts.set n u) j ∧ nth (ts.set n u) j ≤ 16 := fun u hu => ⟨by simpa using tsl, fun j hj => by
        rw [nth_set _ _ _ _ (by omega)]
        split
        · exact hu
        · exact hts j (by omega)⟩
      have hset : n < ts.length := by omega
      obtain ⟨F8, o8⟩ := put1 h ts (.cells false true ((ts.set n 8).flatMap (e1 I))) F ox hidn bid tsl
      have f8 := fin 8 (by omega)
      by_cases hit : i < t.length
      case neg =>
        simp (disch := first | (simp only [go_sem, Bool.and_self, eq_self]; done) | omega | (simp only [List.length_cons, List.length_nil]; omega)) only [go_sem, ↓reduceIte, Nat.reduceEqDiff, Nat.reduceAdd, Nat.reduceMul, Nat.reduceSub, Int.reduceToNat, Nat.reduceBEq, List.size_toArray, List.length_cons, List.length_nil, Bool.false_and, Bool.true_and, Bool.or_false, Bool.false_or, Bool.and_false, Bool.and_true, s4, s5, s6, s7, s8, s13, s14, hnN, hset, bid, b2, klt, hit, i2]
        rw [ForK_normal]
        exact ⟨by omega, by simp (disch := first | (simp only [go_sem, Bool.and_self, eq_self]; done) | omega | (simp only [List.length_cons, List.length_nil]; omega)) only [go_sem, ↓reduceIte, Nat.reduceEqDiff, Nat.reduceAdd, Nat.reduceMul, Nat.reduceSub, Int.reduceToNat, Nat.reduceBEq, List.size_toArray, List.length_cons, List.length_nil, Bool.false_and, Bool.true_and, Bool.or_false, Bool.false_or, Bool.and_false, Bool.and_true, s14], by simp (disch := first | (simp only [go_sem, Bool.and_self, eq_self]; done) | omega | (simp only [List.length_cons, List.length_nil]; omega)) only [go_sem, ↓reduceIte, Nat.reduceEqDiff, Nat.reduceAdd, Nat.reduceMul, Nat.reduceSub, Int.reduceToNat, Nat.reduceBEq, List.size_toArray, List.length_cons, List.length_nil, Bool.false_and, Bool.true_and, Bool.or_false, Bool.false_or, Bool.and_false, Bool.and_true, s4], by simp (disch := first | (simp only [go_sem, Bool.and_self, eq_self]; done) | omega | (simp only [List.length_cons, List.length_nil]; omega)) only [go_sem, ↓reduceIte, Nat.reduceEqDiff, Nat.reduceAdd, Nat.reduceMul, Nat.reduceSub, Int.reduceToNat, Nat.reduceBEq, List.size_toArray, List.length_cons, List.length_nil, Bool.false_and, Bool.true_and, Bool.or_false, Bool.false_or, Bool.and_false, Bool.and_true, s5], by simp (disch := first | (simp only [go_sem, Bool.and_self, eq_self]; done) | omega | (simp only [List.length_cons, List.length_nil]; omega)) only [go_sem, ↓reduceIte, Nat.reduceEqDiff, Nat.reduceAdd, Nat.reduceMul, Nat.reduceSub, Int.reduceToNat, Nat.reduceBEq, List.size_toArray, List.length_cons, List.length_nil, Bool.false_and, Bool.true_and, Bool.or_false, Bool.false_or, Bool.and_false, Bool.and_true, s6], by simp (disch := first | (simp only [go_sem, Bool.and_self, eq_self]; done) | omega | (simp only [List.length_cons, List.length_nil]; omega)) only [go_sem, ↓reduceIte, Nat.reduceEqDiff, Nat.reduceAdd, Nat.reduceMul, Nat.reduceSub, Int.reduceToNat, Nat.reduceBEq, List.size_toArray, List.length_cons, List.length_nil, Bool.false_and, Bool.true_and, Bool.or_false, Bool.false_or, Bool.and_false, Bool.and_true, s7], by simp (disch := first | (simp only [go_sem, Bool.and_self, eq_self]; done) | omega | (simp only [List.length_cons, List.length_nil]; omega)) only [go_sem, ↓reduceIte, Nat.reduceEqDiff, Nat.reduceAdd, Nat.reduceMul, Nat.reduceSub, Int.reduceToNat, Nat.reduceBEq, List.size_toArray, List.length_cons, List.length_nil, Bool.false_and, Bool.true_and, Bool.or_false, Bool.false_or, Bool.and_false, Bool.and_true, s8], by simp (disch := first | (simp only [go_sem, Bool.and_self, eq_self]; done) | omega | (simp only [List.length_cons, List.length_nil]; omega)) only [go_sem, ↓reduceIte, Nat.reduceEqDiff, Nat.reduceAdd, Nat.reduceMul, Nat.reduceSub, Int.reduceToNat, Nat.reduceBEq, List.size_toArray, List.length_cons, List.length_nil, Bool.false_and, Bool.true_and, Bool.or_false, Bool.false_or, Bool.and_false, Bool.and_true, s9], by simp (disch := first | (simp only [go_sem, Bool.and_self, eq_self]; done) | omega | (simp only [List.length_cons, List.length_nil]; omega)) only [go_sem, ↓reduceIte, Nat.reduceEqDiff, Nat.reduceAdd, Nat.reduceMul, Nat.reduceSub, Int.reduceToNat, Nat.reduceBEq, List.size_toArray, List.length_cons, List.length_nil, Bool.false_and, Bool.true_and, Bool.or_false, Bool.false_or, Bool.and_false, Bool.and_true, s13], F8, o8, ts.set n 8, f8.1, hidn, by simp (disch := first | (simp only [go_sem, Bool.and_self, eq_self]; done) | omega | (simp only [List.length_cons, List.length_nil]; omega)) only [go_sem, ↓reduceIte, Nat.reduceEqDiff, Nat.reduceAdd, Nat.reduceMul, Nat.reduceSub, Int.reduceToNat, Nat.reduceBEq, List.size_toArray, List.length_cons, List.length_nil, Bool.false_and, Bool.true_and, Bool.or_false, Bool.false_or, Bool.and_false, Bool.and_true], f8.2⟩
      have hte := ltv.some hit
      rw [hte] at b2
      have hml := okt.2 _ (nth_mem hit)
      by_cases hnt : n < (nth t i).length
      case neg =>
        simp (disch := first | (simp only [go_sem, Bool.and_self, eq_self]; done) | omega | (simp only [List.length_cons, List.length_nil]; omega)) only [go_sem, ↓reduceIte, Nat.reduceEqDiff, Nat.reduceAdd, Nat.reduceMul, Nat.reduceSub, Int.reduceToNat, Nat.reduceBEq, List.size_toArray, List.length_cons, List.length_nil, Bool.false_and, Bool.true_and, Bool.or_false, Bool.false_or, Bool.and_false, Bool.and_true, s4, s5, s6, s7, s8, s13, s14, hnN, hset, bid, b2, hit, hnt, i2]
        rw [ForK_normal]
        exact ⟨by omega, by simp (disch := first | (simp only [go_sem, Bool.and_self, eq_self]; done) | omega | (simp only [List.length_cons, List.length_nil]; omega)) only [go_sem, ↓reduceIte, Nat.reduceEqDiff, Nat.reduceAdd, Nat.reduceMul, Nat.reduceSub, Int.reduceToNat, Nat.reduceBEq, List.size_toArray, List.length_cons, List.length_nil, Bool.false_and, Bool.true_and, Bool.or_false, Bool.false_or, Bool.and_false, Bool.and_true, s14], by simp (disch := first | (simp only [go_sem, Bool.and_self, eq_self]; done) | omega | (simp only [List.length_cons, List.length_nil]; omega)) only [go_sem, ↓reduceIte, Nat.reduceEqDiff, Nat.reduceAdd, Nat.reduceMul, Nat.reduceSub, Int.reduceToNat, Nat.reduceBEq, List.size_toArray, List.length_cons, List.length_nil, Bool.false_and, Bool.true_and, Bool.or_false, Bool.false_or, Bool.and_false, Bool.and_true, s4], by simp (disch := first | (simp only [go_sem, Bool.and_self, eq_self]; done) | omega | (simp only [List.length_cons, List.length_nil]; omega)) only [go_sem, ↓reduceIte, Nat.reduceEqDiff, Nat.reduceAdd, Nat.reduceMul, Nat.reduceSub, Int.reduceToNat, Nat.reduceBEq, List.size_toArray, List.length_cons, List.length_nil, Bool.false_and, Bool.true_and, Bool.or_false, Bool.false_or, Bool.and_false, Bool.and_true, s5], by simp (disch := first | (simp only [go_sem, Bool.and_self, eq_self]; done) | omega | (simp only [List.length_cons, List.length_nil]; omega)) only [go_sem, ↓reduceIte, Nat.reduceEqDiff, Nat.reduceAdd, Nat.reduceMul, Nat.reduceSub, Int.reduceToNat, Nat.reduceBEq, List.size_toArray, List.length_cons, List.length_nil, Bool.false_and, Bool.true_and, Bool.or_false, Bool.false_or, Bool.and_false, Bool.and_true, s6], by simp (disch := first | (simp only [go_sem, Bool.and_self, eq_self]; done) | omega | (simp only [List.length_cons, List.length_nil]; omega)) only [go_sem, ↓reduceIte, Nat.reduceEqDiff, Nat.reduceAdd, Nat.reduceMul, Nat.reduceSub, Int.reduceToNat, Nat.reduceBEq, List.size_toArray, List.length_cons, List.length_nil, Bool.false_and, Bool.true_and, Bool.or_false, Bool.false_or, Bool.and_false, Bool.and_true, s7], by simp (disch := first | (simp only [go_sem, Bool.and_self, eq_self]; done) | omega | (simp only [List.length_cons, List.length_nil]; omega)) only [go_sem, ↓reduceIte, Nat.reduceEqDiff, Nat.reduceAdd, Nat.reduceMul, Nat.reduceSub, Int.reduceToNat, Nat.reduceBEq, List.size_toArray, List.length_cons, List.length_nil, Bool.false_and, Bool.true_and, Bool.or_false, Bool.false_or, Bool.and_false, Bool.and_true, s8], by simp (disch := first | (simp only [go_sem, Bool.and_self, eq_self]; done) | omega | (simp only [List.length_cons, List.length_nil]; omega)) only [go_sem, ↓reduceIte, Nat.reduceEqDiff, Nat.reduceAdd, Nat.reduceMul, Nat.reduceSub, Int.reduceToNat, Nat.reduceBEq, List.size_toArray, List.length_cons, List.length_nil, Bool.false_and, Bool.true_and, Bool.or_false, Bool.false_or, Bool.and_false, Bool.and_true, s9], by simp (disch := first | (simp only [go_sem, Bool.and_self, eq_self]; done) | omega | (simp only [List.length_cons, List.length_nil]; omega)) only [go_sem, ↓reduceIte, Nat.reduceEqDiff, Nat.reduceAdd, Nat.reduceMul, Nat.reduceSub, Int.reduceToNat, Nat.reduceBEq, List.size_toArray, List.length_cons, List.length_nil, Bool.false_and, Bool.true_and, Bool.or_false, Bool.false_or, Bool.and_false, Bool.and_true, s13], F8, o8, ts.set n 8, f8.1, hidn, by simp (disch := first | (simp only [go_sem, Bool.and_self, eq_self]; done) | omega | (simp only [List.length_cons, List.length_nil]; omega)) only [go_sem, ↓reduceIte, Nat.reduceEqDiff, Nat.reduceAdd, Nat.reduceMul, Nat.reduceSub, Int.reduceToNat, Nat.reduceBEq, List.size_toArray, List.length_cons, List.length_nil, Bool.false_and, Bool.true_and, Bool.or_false, Bool.false_or, Bool.and_false, Bool.and_true], f8.2⟩
      have k2 := fun h h'' K => k31 (h := h) (h' := h'') (K := K) (nth (nth t i) n) 17 (by decide)
      have hmo := modI_bounds (nth (nth t i) n) (n := 17) (by decide)
      have hset2 : n < (ts.set n 8).length := by omega
      obtain ⟨F9, o9⟩ := put1 (h.put id (some (.cells false true ((ts.set n 8).flatMap (e1 I))))) (ts.set n 8) (.cells false true (((ts.set n 8).set n (modI (nth (nth t i) n) 17)).flatMap (e1 I))) F8 o8 hidn (by simp [Hp.put]) f8.1
      have f9 := fin (modI (nth (nth t i) n) 17) (by omega)
      rw [← show (ts.set n 8).set n (modI (nth (nth t i) n) 17) = ts.set n (modI (nth (nth t i) n) 17) by simp] at f9
      simp (disch := first | (simp only [go_sem, Bool.and_self, eq_self]; done) | omega | (simp only [List.length_cons, List.length_nil]; omega)) only [go_sem, ↓reduceIte, Nat.reduceEqDiff, Nat.reduceAdd, Nat.reduceMul, Nat.reduceSub, Int.reduceToNat, Nat.reduceBEq, List.size_toArray, List.length_cons, List.length_nil, Bool.false_and, Bool.true_and, Bool.or_false, Bool.false_or, Bool.and_false, Bool.and_true, s4, s5, s6, s7, s8, s13, s14, hnN, hset, hset2, bid, b2, hit, hnt, i2, k2]
      rw [ForK_normal]
      exact ⟨by omega, by simp (disch := first | (simp only [go_sem, Bool.and_self, eq_self]; done) | omega | (simp only [List.length_cons, List.length_nil]; omega)) only [go_sem, ↓reduceIte, Nat.reduceEqDiff, Nat.reduceAdd, Nat.reduceMul, Nat.reduceSub, Int.reduceToNat, Nat.reduceBEq, List.size_toArray, List.length_cons, List.length_nil, Bool.false_and, Bool.true_and, Bool.or_false, Bool.false_or, Bool.and_false, Bool.and_true, s14], by simp (disch := first | (simp only [go_sem, Bool.and_self, eq_self]; done) | omega | (simp only [List.length_cons, List.length_nil]; omega)) only [go_sem, ↓reduceIte, Nat.reduceEqDiff, Nat.reduceAdd, Nat.reduceMul, Nat.reduceSub, Int.reduceToNat, Nat.reduceBEq, List.size_toArray, List.length_cons, List.length_nil, Bool.false_and, Bool.true_and, Bool.or_false, Bool.false_or, Bool.and_false, Bool.and_true, s4], by simp (disch := first | (simp only [go_sem, Bool.and_self, eq_self]; done) | omega | (simp only [List.length_cons, List.length_nil]; omega)) only [go_sem, ↓reduceIte, Nat.reduceEqDiff, Nat.reduceAdd, Nat.reduceMul, Nat.reduceSub, Int.reduceToNat, Nat.reduceBEq, List.size_toArray, List.length_cons, List.length_nil, Bool.false_and, Bool.true_and, Bool.or_false, Bool.false_or, Bool.and_false, Bool.and_true, s5], by simp (disch := first | (simp only [go_sem, Bool.and_self, eq_self]; done) | omega | (simp only [List.length_cons, List.length_nil]; omega)) only [go_sem, ↓reduceIte, Nat.reduceEqDiff, Nat.reduceAdd, Nat.reduceMul, Nat.reduceSub, Int.reduceToNat, Nat.reduceBEq, List.size_toArray, List.length_cons, List.length_nil, Bool.false_and, Bool.true_and, Bool.or_false, Bool.false_or, Bool.and_false, Bool.and_true, s6], by simp (disch := first | (simp only [go_sem, Bool.and_self, eq_self]; done) | omega | (simp only [List.length_cons, List.length_nil]; omega)) only [go_sem, ↓reduceIte, Nat.reduceEqDiff, Nat.reduceAdd, Nat.reduceMul, Nat.reduceSub, Int.reduceToNat, Nat.reduceBEq, List.size_toArray, List.length_cons, List.length_nil, Bool.false_and, Bool.true_and, Bool.or_false, Bool.false_or, Bool.and_false, Bool.and_true, s7], by simp (disch := first | (simp only [go_sem, Bool.and_self, eq_self]; done) | omega | (simp only [List.length_cons, List.length_nil]; omega)) only [go_sem, ↓reduceIte, Nat.reduceEqDiff, Nat.reduceAdd, Nat.reduceMul, Nat.reduceSub, Int.reduceToNat, Nat.reduceBEq, List.size_toArray, List.length_cons, List.length_nil, Bool.false_and, Bool.true_and, Bool.or_false, Bool.false_or, Bool.and_false, Bool.and_true, s8], by simp (disch := first | (simp only [go_sem, Bool.and_self, eq_self]; done) | omega | (simp only [List.length_cons, List.length_nil]; omega)) only [go_sem, ↓reduceIte, Nat.reduceEqDiff, Nat.reduceAdd, Nat.reduceMul, Nat.reduceSub, Int.reduceToNat, Nat.reduceBEq, List.size_toArray, List.length_cons, List.length_nil, Bool.false_and, Bool.true_and, Bool.or_false, Bool.false_or, Bool.and_false, Bool.and_true, s9], by simp (disch := first | (simp only [go_sem, Bool.and_self, eq_self]; done) | omega | (simp only [List.length_cons, List.length_nil]; omega)) only [go_sem, ↓reduceIte, Nat.reduceEqDiff, Nat.reduceAdd, Nat.reduceMul, Nat.reduceSub, Int.reduceToNat, Nat.reduceBEq, List.size_toArray, List.length_cons, List.length_nil, Bool.false_and, Bool.true_and, Bool.or_false, Bool.false_or, Bool.and_false, Bool.and_true, s13], F9, o9, _, f9.1, hidn, by simp (disch := first | (simp only [go_sem, Bool.and_self, eq_self]; done) | omega | (simp only [List.length_cons, List.length_nil]; omega)) only [go_sem, ↓reduceIte, Nat.reduceEqDiff, Nat.reduceAdd, Nat.reduceMul, Nat.reduceSub, Int.reduceToNat, Nat.reduceBEq, List.size_toArray, List.length_cons, List.length_nil, Bool.false_and, Bool.true_and, Bool.or_false, Bool.false_or, Bool.and_false, Bool.and_true], f9.2⟩
    rintro st h ⟨s4, s5, s6, s7, s8, s9, s13, F, ox, ts, tsl, hidn, bid, hts⟩
    have oy : Own (e1 I) 1 h (.sl id 0 N 1) ts := .inr ⟨id, by rw [tsl], hidn, bid⟩
    obtain ⟨h1, hs1, hn1, hb1⟩ := sealA_Own ox
    have F1 := F.mono (h' := h1) (by omega) ox (fun b _ hne => hb1 b hne) dv dw
    have oy1 : Own (e1 I) 1 h1 (.sl id 0 N 1) ts := Own.keepX oy (by omega) (fun b _ hne => hb1 b hne) ydx.symm
    have hbs1 := bsB_one (P := Try.prog) 25 x (LI rr) .nil h1 isz25 izero25 rfl rfl rfl hs1 rfl rfl (pure_L _)
    have hap1 := app_one (P := Try.prog) F1.ov 25 24 .nil rr isz25 ibytes25 izero25 rfl (by omega) (by omega)
    have hF1n := F1.nx
    have c1 := (appH_bl h1 v ((P ++ [rr]).flatMap (e1 LI)) 1 (by omega) (own_ne F1.ov F1.b1)).trans F1.b1
    have c2 := (appH_bl h1 v ((P ++ [rr]).flatMap (e1 LI)) 2 (by omega) (own_ne F1.ov F1.b2)).trans F1.b2
    have c3 := (appH_bl h1 v ((P ++ [rr]).flatMap (e1 LI)) 3 (by omega) (own_ne F1.ov F1.b3)).trans F1.b3
    have cn := appH_nx h1 v ((P ++ [rr]).flatMap (e1 LI))
    have oV := Own.app (f := e1 LI) (sz := 1) h1 v (P ++ [rr])
    have ow1 := Own.keep F1.ow F1.d ((P ++ [rr]).flatMap (e1 LI))
    have oy2 := Own.keep oy1 ydv.symm ((P ++ [rr]).flatMap (e1 LI))
    have dVw := Own.dis F1.ow (P ++ [rr]).length 1
    have dVy := Own.dis oy1 (P ++ [rr]).length 1
    generalize appH h1 v ((P ++ [rr]).flatMap (e1 LI)) = G1 at hap1 c1 c2 c3 cn oV ow1 oy2
    generalize appV h1 (P ++ [rr]).length 1 = V at hap1 oV dVw dVy
    have hV := own_cell oV
    have hst1 : storeC G1 3 0 1 (some (.cells false false [v, w])) V.cells = some (.skp, G1.put 3 (some (.cells false false [V, w]))) := store_fst hV
    have oV2 := own_put oV c3 (some (.cells false false [V, w]))
    have ow2 := own_put ow1 c3 (some (.cells false false [V, w]))
    have oy3 := own_put oy2 c3 (some (.cells false false [V, w]))
    have d1 : (G1.put 3 (some (.cells false false [V, w]))).bl 1 = some (.cells false false [.nil, .nil]) := by rw [put_bl, if_neg (by decide)]; exact c1
    have d2 : (G1.put 3 (some (.cells false false [V, w]))).bl 2 = some (.cells false false [pv, tv]) := by rw [put_bl, if_neg (by decide)]; exact c2
    have d3 : (G1.put 3 (some (.cells false false [V, w]))).bl 3 = some (.cells false false [V, w]) := by rw [put_bl, if_pos rfl]
    have dn : (G1.put 3 (some (.cells false false [V, w]))).nx = h1.nx + 1 := cn
    generalize G1.put 3 (some (.cells false false [V, w])) = G2 at hst1 oV2 ow2 oy3 d1 d2 d3 dn
    obtain ⟨h2, hs2, hn2, hb2⟩ := sealA_Own oy3
    have oV3 : Own (e1 LI) 1 h2 V (P ++ [rr]) := Own.keepX oV2 (by omega) (fun b _ hne => hb2 b hne) dVy.symm
    have ow3 : Own (e1 LI) 1 h2 w T := Own.keepX ow2 (by omega) (fun b _ hne => hb2 b hne) ydw
    have g1 := (hb2 1 (own_ne oy3 d1)).trans d1
    have g2 := (hb2 2 (own_ne oy3 d2)).trans d2
    have g3 := (hb2 3 (own_ne oy3 d3)).trans d3
    have hbs2 := bsB_one (P := Try.prog) 25 (.sl id 0 N 1) (LI ts) .nil h2 isz25 izero25 rfl rfl rfl hs2 rfl rfl (pure_L _)
    have hap2 := app_one (P := Try.prog) ow3 25 24 .nil ts isz25 ibytes25 izero25 rfl (by omega) (by omega)
    have k1 := (appH_bl h2 w ((T ++ [ts]).flatMap (e1 LI)) 1 (by omega) (own_ne ow3 g1)).trans g1
    have k2 := (appH_bl h2 w ((T ++ [ts]).flatMap (e1 LI)) 2 (by omega) (own_ne ow3 g2)).trans g2
    have k3 := (appH_bl h2 w ((T ++ [ts]).flatMap (e1 LI)) 3 (by omega) (own_ne ow3 g3)).trans g3
    have kn := appH_nx h2 w ((T ++ [ts]).flatMap (e1 LI))
    have oW := Own.app (f := e1 LI) (sz := 1) h2 w (T ++ [ts])
    have oV4 := Own.keep oV3 dVw.symm ((T ++ [ts]).flatMap (e1 LI))
    have dWV := Own.dis oV3 (T ++ [ts]).length 1
    generalize appH h2 w ((T ++ [ts]).flatMap (e1 LI)) = G3 at hap2 k1 k2 k3 kn oW oV4
    generalize appV h2 (T ++ [ts]).length 1 = U at hap2 oW dWV
    have hU := own_cell oW
    have hst2 : storeC G3 3 1 1 (some (.cells false false [V, w])) U.cells = some (.skp, G3.put 3 (some (.cells false false [V, U]))) := store_snd hU
    have b3 := F.b3
    have hF3 : 3 < h.nx := by have := F.nx; omega
    simp (disch := first | (simp only [go_sem, Bool.and_self, eq_self]; done) | omega | (simp only [List.length_cons, List.length_nil]; omega)) only [go_sem, ↓reduceIte, Nat.reduceEqDiff, Nat.reduceAdd, Nat.reduceMul, Nat.reduceSub, Int.reduceToNat, Nat.reduceBEq, List.size_toArray, List.length_cons, List.length_nil, Bool.false_and, Bool.true_and, Bool.or_false, Bool.false_or, Bool.and_false, Bool.and_true, s4, s5, s6, s7, s8, s9, s13, b3, hF3, hbs1, hap1, c3, hst1, d3, hbs2, hap2, k3, hst2]
    rw [ForK_normal]
    refine ⟨hlt, by simp (disch := first | (simp only [go_sem, Bool.and_self, eq_self]; done) | omega | (simp only [List.length_cons, List.length_nil]; omega)) only [go_sem, ↓reduceIte, Nat.reduceEqDiff, Nat.reduceAdd, Nat.reduceMul, Nat.reduceSub, Int.reduceToNat, Nat.reduceBEq, List.size_toArray, List.length_cons, List.length_nil, Bool.false_and, Bool.true_and, Bool.or_false, Bool.false_or, Bool.and_false, Bool.and_true, s8], by simp (disch := first | (simp only [go_sem, Bool.and_self, eq_self]; done) | omega | (simp only [List.length_cons, List.length_nil]; omega)) only [go_sem, ↓reduceIte, Nat.reduceEqDiff, Nat.reduceAdd, Nat.reduceMul, Nat.reduceSub, Int.reduceToNat, Nat.reduceBEq, List.size_toArray, List.length_cons, List.length_nil, Bool.false_and, Bool.true_and, Bool.or_false, Bool.false_or, Bool.and_false, Bool.and_true, s4], by simp (disch := first | (simp only [go_sem, Bool.and_self, eq_self]; done) | omega | (simp only [List.length_cons, List.length_nil]; omega)) only [go_sem, ↓reduceIte, Nat.reduceEqDiff, Nat.reduceAdd, Nat.reduceMul, Nat.reduceSub, Int.reduceToNat, Nat.reduceBEq, List.size_toArray, List.length_cons, List.length_nil, Bool.false_and, Bool.true_and, Bool.or_false, Bool.false_or, Bool.and_false, Bool.and_true, s5], by simp (disch := first | (simp only [go_sem, Bool.and_self, eq_self]; done) | omega | (simp only [List.length_cons, List.length_nil]; omega)) only [go_sem, ↓reduceIte, Nat.reduceEqDiff, Nat.reduceAdd, Nat.reduceMul, Nat.reduceSub, Int.reduceToNat, Nat.reduceBEq, List.size_toArray, List.length_cons, List.length_nil, Bool.false_and, Bool.true_and, Bool.or_false, Bool.false_or, Bool.and_false, Bool.and_true, s6], by simp (disch := first | (simp only [go_sem, Bool.and_self, eq_self]; done) | omega | (simp only [List.length_cons, List.length_nil]; omega)) only [go_sem, ↓reduceIte, Nat.reduceEqDiff, Nat.reduceAdd, Nat.reduceMul, Nat.reduceSub, Int.reduceToNat, Nat.reduceBEq, List.size_toArray, List.length_cons, List.length_nil, Bool.false_and, Bool.true_and, Bool.or_false, Bool.false_or, Bool.and_false, Bool.and_true, s7], P ++ [rr], T ++ [ts], V, U, ⟨?_, ?_, ?_, by simp (disch := first | (simp only [go_sem, Bool.and_self, eq_self]; done) | omega | (simp only [List.length_cons, List.length_nil]; omega)) only [go_sem, ↓reduceIte, Nat.reduceEqDiff, Nat.reduceAdd, Nat.reduceMul, Nat.reduceSub, Int.reduceToNat, Nat.reduceBEq, List.size_toArray, List.length_cons, List.length_nil, Bool.false_and, Bool.true_and, Bool.or_false, Bool.false_or, Bool.and_false, Bool.and_true], own_put oV4 k3 _, own_put oW k3 _, dWV.symm⟩, by simp [hPl], by simp [hTl], fun j hj => ?_⟩
    · rw [put_nx, kn]; omega
    · rw [put_bl, if_neg (by decide)]; exact k1
    · rw [put_bl, if_neg (by decide)]; exact k2
    · rcases Nat.lt_or_ge j i with h | h
      · rw [nth_append_left _ _ _ (by omega), nth_append_left _ _ _ (by omega)]; exact hok j h
      · have hji : j = i := by omega
        have e1' : nth (P ++ [rr]) j = rr := by rw [nth, List.getElem?_append_right (by omega), hPl, hji]; simp
        have e2' : nth (T ++ [ts]) j = ts := by rw [nth, List.getElem?_append_right (by omega), hTl, hji]; simp
        rw [e1', e2', hji]
        exact ar.ok (by rw [tsl, hNe]) (fun j hj => hts j (by omega))
  · rintro st h ⟨s4, s5, s6, s7, P, T, v, w, F, hPl, hTl, hok⟩
    have hk1 : 1 ≤ k := by omega
    have hv := own_cell F.ov
    have hw := own_cell F.ow
    have b1 := F.b1
    have b3 := F.b3
    have o1 := own_put F.ov b1 (some (.cells false false [v, w]))
    have o2 := own_put F.ow b1 (some (.cells false false [v, w]))
    have hex := export_net 24 o1 o2 F.d (fun e => by rw [e] at hPl; simp at hPl; omega) (fun e => by rw [e] at hTl; simp at hTl; omega)
    rw [netV_cons (fun e => by rw [e.1] at hPl; simp at hPl; omega)] at hex
    simp (disch := first | (simp only [go_sem, Bool.and_self, eq_self]; done) | omega | (simp only [List.length_cons, List.length_nil]; omega)) only [go_sem, ↓reduceIte, Nat.reduceEqDiff, Nat.reduceAdd, Nat.reduceMul, Nat.reduceSub, Int.reduceToNat, Nat.reduceBEq, List.size_toArray, List.length_cons, List.length_nil, Bool.false_and, Bool.true_and, Bool.or_false, Bool.false_or, Bool.and_false, Bool.and_true, s4, s5, s6, s7, b1, b3, hv, hw]
    refine ⟨_, hex, P, T, ?_, by omega, rfl⟩
    simp only [netB, Bool.and_eq_true, decide_eq_true_eq]
    refine ⟨⟨by simp [inB]; omega, by omega⟩, all_range fun j hj => ?_⟩
    rw [rowB_def]
    exact hok j (by omega)
theorem f30_con (p t : List (List Int)) (hp : okLL p) (ht : okLL t) (m : Int) (hm : 1 ≤ m ∧ m ≤ 10) : ∃ r, Con Try.prog cfg 30 [.agg [LLI p, LLI t], I m] r ∧ TameR m r := by
  have ml : maxLen = 9223372036854775807 := by decide
  have k16 := fun h h' K => ConW_any (h := h) (h' := h') (K := K) (f16_con p t hp ht) (by unfold netV; split <;> rfl) (by unfold netV; split <;> rfl)
  have okp := tableM_ok p
  have okt := tableM_ok t
  have lp : (tableM p).length ≤ 12 := by simp [tableM]; omega
  have lt : (tableM t).length ≤ 12 := by simp [tableM]; omega
  generalize tableM p = p' at *
  generalize tableM t = t' at *
  have hv : ∃ pv tv, netV p' t' = .agg [pv, tv] ∧ LV pv p' ∧ LV tv t' ∧ (∀ h, sealA h (.agg [pv, tv]) = some (.agg [pv, tv], h)) ∧ Con Try.prog cfg 19 [.agg [pv, tv]] (.bool (netB p' t')) ∧ (netB p' t' = true → pv = LLI p' ∧ tv = LLI t') := by
    by_cases hnil : p' = [] ∧ t' = []
    · obtain ⟨rfl, rfl⟩ := hnil
      exact ⟨.nil, .nil, netV_nil, .inr ⟨rfl, rfl⟩, .inr ⟨rfl, rfl⟩, fun _ => rfl, f19_nil, fun h => by cases h⟩
    · exact ⟨LLI p', LLI t', netV_cons hnil, .inl rfl, .inl rfl, fun h => by simp (disch := first | (simp only [go_sem, Bool.and_self, eq_self]; done) | omega | (simp only [List.length_cons, List.length_nil]; omega)) only [go_sem, ↓reduceIte, Nat.reduceEqDiff, Nat.reduceAdd, Nat.reduceMul, Nat.reduceSub, Int.reduceToNat, Nat.reduceBEq, List.size_toArray, List.length_cons, List.length_nil, Bool.false_and, Bool.true_and, Bool.or_false, Bool.false_or, Bool.and_false, Bool.and_true], f19_con p' t' okp okt, fun _ => ⟨rfl, rfl⟩⟩
  obtain ⟨pv, tv, hnv, lpv, ltv, hse, c19, hne⟩ := hv
  rw [hnv] at k16
  have k19 := fun h h' K => ConW_num (h := h) (h' := h') (K := K) c19 rfl
  have hcp := lpv.cell
  have hct := ltv.cell
  have hst := fun h => show storeC h 2 0 2 (some (.cells false false [.nil, .nil])) [pv, tv] = some (.skp, h.put 2 (some (.cells false false [pv, tv]))) by simp [storeC, hcp, hct, setL]
  have klp := lpv.len
  have klt := ltv.len
  refine Con_introE Try.func30 rfl ok30 (Nat.le_of_ble_eq_true rfl) rfl ?_
  have tl := fun st h a1 a2 a3 a4 a5 a6 => f30_tail p' t' pv tv lpv ltv okp okt lp lt m hm st h a1 a2 a3 a4 a5 a6
  have hb : Try.f30.body.getD .skip = withTail 3 (Try.f30.body.getD .skip) (tailN 3 (Try.f30.body.getD .skip)) := rfl
  rw [hb]
  generalize tailN 3 (Try.f30.body.getD .skip) = T at tl ⊢
  simp only [withTail, Try.f30, Option.getD_some, initSt2]
  cases h1 : netB p' t' with
  | true =>
    obtain ⟨rfl, rfl⟩ := hne h1
    by_cases hle : (p'.length : Int) ≤ m
    · simp (disch := first | (simp only [go_sem, Bool.and_self, eq_self]; done) | omega | (simp only [List.length_cons, List.length_nil]; omega)) only [go_sem, ↓reduceIte, Nat.reduceEqDiff, Nat.reduceAdd, Nat.reduceMul, Nat.reduceSub, Int.reduceToNat, Nat.reduceBEq, List.size_toArray, List.length_cons, List.length_nil, Bool.false_and, Bool.true_and, Bool.or_false, Bool.false_or, Bool.and_false, Bool.and_true, k16, k19, hse, hst, h1, hle]
      refine ⟨.agg [LLI p', LLI t'], ?_, p', t', h1, hle, rfl⟩
      show (exportV Try.prog false false 24 _ [] (.agg [LLI p', LLI t'])).bind _ = _
      rw [exportV_plain, hse]; rfl
    · simp (disch := first | (simp only [go_sem, Bool.and_self, eq_self]; done) | omega | (simp only [List.length_cons, List.length_nil]; omega)) only [go_sem, ↓reduceIte, Nat.reduceEqDiff, Nat.reduceAdd, Nat.reduceMul, Nat.reduceSub, Int.reduceToNat, Nat.reduceBEq, List.size_toArray, List.length_cons, List.length_nil, Bool.false_and, Bool.true_and, Bool.or_false, Bool.false_or, Bool.and_false, Bool.and_true, k16, k19, hse, hst, h1, hle]
      exact tl _ _ (by simp (disch := first | (simp only [go_sem, Bool.and_self, eq_self]; done) | omega | (simp only [List.length_cons, List.length_nil]; omega)) only [go_sem, ↓reduceIte, Nat.reduceEqDiff, Nat.reduceAdd, Nat.reduceMul, Nat.reduceSub, Int.reduceToNat, Nat.reduceBEq, List.size_toArray, List.length_cons, List.length_nil, Bool.false_and, Bool.true_and, Bool.or_false, Bool.false_or, Bool.and_false, Bool.and_true]) (by simp (disch := first | (simp only [go_sem, Bool.and_self, eq_self]; done) | omega | (simp only [List.length_cons, List.length_nil]; omega)) only [go_sem, ↓reduceIte, Nat.reduceEqDiff, Nat.reduceAdd, Nat.reduceMul, Nat.reduceSub, Int.reduceToNat, Nat.reduceBEq, List.size_toArray, List.length_cons, List.length_nil, Bool.false_and, Bool.true_and, Bool.or_false, Bool.false_or, Bool.and_false, Bool.and_true]) (by simp (disch := first | (simp only [go_sem, Bool.and_self, eq_self]; done) | omega | (simp only [List.length_cons, List.length_nil]; omega)) only [go_sem, ↓reduceIte, Nat.reduceEqDiff, Nat.reduceAdd, Nat.reduceMul, Nat.reduceSub, Int.reduceToNat, Nat.reduceBEq, List.size_toArray, List.length_cons, List.length_nil, Bool.false_and, Bool.true_and, Bool.or_false, Bool.false_or, Bool.and_false, Bool.and_true]) (by simp (disch := first | (simp only [go_sem, Bool.and_self, eq_self]; done) | omega | (simp only [List.length_cons, List.length_nil]; omega)) only [go_sem, ↓reduceIte, Nat.reduceEqDiff, Nat.reduceAdd, Nat.reduceMul, Nat.reduceSub, Int.reduceToNat, Nat.reduceBEq, List.size_toArray, List.length_cons, List.length_nil, Bool.false_and, Bool.true_and, Bool.or_false, Bool.false_or, Bool.and_false, Bool.and_true]) (by simp (disch := first | (simp only [go_sem, Bool.and_self, eq_self]; done) | omega | (simp only [List.length_cons, List.length_nil]; omega)) only [go_sem, ↓reduceIte, Nat.reduceEqDiff, Nat.reduceAdd, Nat.reduceMul, Nat.reduceSub, Int.reduceToNat, Nat.reduceBEq, List.size_toArray, List.length_cons, List.length_nil, Bool.false_and, Bool.true_and, Bool.or_false, Bool.false_or, Bool.and_false, Bool.and_true]) (by simp (disch := first | (simp only [go_sem, Bool.and_self, eq_self]; done) | omega | (simp only [List.length_cons, List.length_nil]; omega)) only [go_sem, ↓reduceIte, Nat.reduceEqDiff, Nat.reduceAdd, Nat.reduceMul, Nat.reduceSub, Int.reduceToNat, Nat.reduceBEq, List.size_toArray, List.length_cons, List.length_nil, Bool.false_and, Bool.true_and, Bool.or_false, Bool.false_or, Bool.and_false, Bool.and_true])
  | false =>
    simp (disch := first | (simp only [go_sem, Bool.and_self, eq_self]; done) | omega | (simp only [List.length_cons, List.length_nil]; omega)) only [go_sem, ↓reduceIte, Nat.reduceEqDiff, Nat.reduceAdd, Nat.reduceMul, Nat.reduceSub, Int.reduceToNat, Nat.reduceBEq, List.size_toArray, List.length_cons, List.length_nil, Bool.false_and, Bool.true_and, Bool.or_false, Bool.false_or, Bool.and_false, Bool.and_true, k16, k19, hse, hst, h1]
    exact tl _ _ (by simp (disch := first | (simp only [go_sem, Bool.and_self, eq_self]; done) | omega | (simp only [List.length_cons, List.length_nil]; omega)) only [go_sem, ↓reduceIte, Nat.reduceEqDiff, Nat.reduceAdd, Nat.reduceMul, Nat.reduceSub, Int.reduceToNat, Nat.reduceBEq, List.size_toArray, List.length_cons, List.length_nil, Bool.false_and, Bool.true_and, Bool.or_false, Bool.false_or, Bool.and_false, Bool.and_true]) (by simp (disch := first | (simp only [go_sem, Bool.and_self, eq_self]; done) | omega | (simp only [List.length_cons, List.length_nil]; omega)) only [go_sem, ↓reduceIte, Nat.reduceEqDiff, Nat.reduceAdd, Nat.reduceMul, Nat.reduceSub, Int.reduceToNat, Nat.reduceBEq, List.size_toArray, List.length_cons, List.length_nil, Bool.false_and, Bool.true_and, Bool.or_false, Bool.false_or, Bool.and_false, Bool.and_true]) (by simp (disch := first | (simp only [go_sem, Bool.and_self, eq_self]; done) | omega | (simp only [List.length_cons, List.length_nil]; omega)) only [go_sem, ↓reduceIte, Nat.reduceEqDiff, Nat.reduceAdd, Nat.reduceMul, Nat.reduceSub, Int.reduceToNat, Nat.reduceBEq, List.size_toArray, List.length_cons, List.length_nil, Bool.false_and, Bool.true_and, Bool.or_false, Bool.false_or, Bool.and_false, Bool.and_true]) (by simp (disch := first | (simp only [go_sem, Bool.and_self, eq_self]; done) | omega | (simp only [List.length_cons, List.length_nil]; omega)) only [go_sem, ↓reduceIte, Nat.reduceEqDiff, Nat.reduceAdd, Nat.reduceMul, Nat.reduceSub, Int.reduceToNat, Nat.reduceBEq, List.size_toArray, List.length_cons, List.length_nil, Bool.false_and, Bool.true_and, Bool.or_false, Bool.false_or, Bool.and_false, Bool.and_true]) (by simp (disch := first | (simp only [go_sem, Bool.and_self, eq_self]; done) | omega | (simp only [List.length_cons, List.length_nil]; omega)) only [go_sem, ↓reduceIte, Nat.reduceEqDiff, Nat.reduceAdd, Nat.reduceMul, Nat.reduceSub, Int.reduceToNat, Nat.reduceBEq, List.size_toArray, List.length_cons, List.length_nil, Bool.false_and, Bool.true_and, Bool.or_false, Bool.false_or, Bool.and_false, Bool.and_true]) (by simp (disch := first | (simp only [go_sem, Bool.and_self, eq_self]; done) | omega | (simp only [List.length_cons, List.length_nil]; omega)) only [go_sem, ↓reduceIte, Nat.reduceEqDiff, Nat.reduceAdd, Nat.reduceMul, Nat.reduceSub, Int.reduceToNat, Nat.reduceBEq, List.size_toArray, List.length_cons, List.length_nil, Bool.false_and, Bool.true_and, Bool.or_false, Bool.false_or, Bool.and_false, Bool.and_true])

end Go.Proofs.Ytpkakapbepkfdaa

set_option linter.unusedVariables false
set_option linter.unusedSimpArgs false
set_option maxRecDepth 10000
namespace Go.Proofs.Ytpkakapbepkfdaa
open Go Go.Am

variable {h h' : Hp} {K : AV → Hp → Prop}

theorem okLL_net {p t : List (List Int)} (h : netB p t = true) : okLL p ∧ okLL t := by
  have ml : maxLen = 9223372036854775807 := by decide
  have N := Net.of h
  have n1 := N.n1
  simp only [netB, Bool.and_eq_true, decide_eq_true_eq] at h
  refine ⟨⟨by omega, fun r hr => ?_⟩, ⟨by omega, fun r hr => ?_⟩⟩
  · obtain ⟨i, hi, rfl⟩ := List.getElem_of_mem hr
    have := range_all h.2 hi
    rw [rowB_def, rowOK] at this
    simp only [Bool.and_eq_true, decide_eq_true_eq] at this
    rw [← nth_getElem hi]; omega
  · obtain ⟨i, hi, rfl⟩ := List.getElem_of_mem hr
    have := range_all h.2 (show i < p.length by omega)
    rw [rowB_def, rowOK] at this
    simp only [Bool.and_eq_true, decide_eq_true_eq] at this
    have h8 : 2 ^ (nth p i).length ≤ 2 ^ 3 := Nat.pow_le_pow_right (by decide) this.1.1.1
    rw [← nth_getElem hi]; omega
end Go.Proofs.Ytpkakapbepkfdaa

set_option linter.unusedVariables false
set_option linter.unusedSimpArgs false
set_option maxRecDepth 10000
namespace Go.Proofs.Ytpkakapbepkfdaa
open Go Go.Am

variable {h h' : Hp} {K : AV → Hp → Prop}

theorem list_ext_nth {a b : List Int} (hl : a.length = b.length) (h : ∀ i, i < a.length → nth a i = nth b i) : a = b :=
  List.ext_getElem hl fun i h1 h2 => by rw [← nth_getElem h1, ← nth_getElem h2]; exact h i h1
theorem f39_con (a b : List Int) (ha : a.length ≤ maxLen) (hb : b.length ≤ maxLen) : Con Try.prog cfg 39 [LI a, LI b] (.bool (decide (a = b))) := by
  have ml : maxLen = 9223372036854775807 := by decide
  refine Con_intro Try.func39 rfl ok39 (Nat.le_of_ble_eq_true rfl) rfl ?_
  simp only [Try.f39, Option.getD_some, initSt2]
  by_cases hl : a.length = b.length
  case neg =>
    have hn : ¬ (a.length : Int) = b.length := by omega
    have hr : ¬ a = b := fun h => hl (by rw [h])
    simp (disch := first | (simp only [go_sem, Bool.and_self, eq_self]; done) | omega | (simp only [List.length_cons, List.length_nil]; omega)) only [go_sem, ↓reduceIte, Nat.reduceEqDiff, Nat.reduceAdd, Nat.reduceMul, Nat.reduceSub, Int.reduceToNat, Nat.reduceBEq, List.size_toArray, List.length_cons, List.length_nil, Bool.false_and, Bool.true_and, Bool.or_false, Bool.false_or, Bool.and_false, Bool.and_true, hn, hr]
  have hn : (a.length : Int) = b.length := by omega
  simp (disch := first | (simp only [go_sem, Bool.and_self, eq_self]; done) | omega | (simp only [List.length_cons, List.length_nil]; omega)) only [go_sem, ↓reduceIte, Nat.reduceEqDiff, Nat.reduceAdd, Nat.reduceMul, Nat.reduceSub, Int.reduceToNat, Nat.reduceBEq, List.size_toArray, List.length_cons, List.length_nil, Bool.false_and, Bool.true_and, Bool.or_false, Bool.false_or, Bool.and_false, Bool.and_true, hn]
  refine WP_for 5 a.length (fun i st h => st 0 = LI a ∧ st 1 = LI b ∧ st 4 = .bool false ∧ ∀ j, j < i → nth a j = nth b j) (by simp (disch := first | (simp only [go_sem, Bool.and_self, eq_self]; done) | omega | (simp only [List.length_cons, List.length_nil]; omega)) only [go_sem, ↓reduceIte, Nat.reduceEqDiff, Nat.reduceAdd, Nat.reduceMul, Nat.reduceSub, Int.reduceToNat, Nat.reduceBEq, List.size_toArray, List.length_cons, List.length_nil, Bool.false_and, Bool.true_and, Bool.or_false, Bool.false_or, Bool.and_false, Bool.and_true]) ⟨by simp (disch := first | (simp only [go_sem, Bool.and_self, eq_self]; done) | omega | (simp only [List.length_cons, List.length_nil]; omega)) only [go_sem, ↓reduceIte, Nat.reduceEqDiff, Nat.reduceAdd, Nat.reduceMul, Nat.reduceSub, Int.reduceToNat, Nat.reduceBEq, List.size_toArray, List.length_cons, List.length_nil, Bool.false_and, Bool.true_and, Bool.or_false, Bool.false_or, Bool.and_false, Bool.and_true], by simp (disch := first | (simp only [go_sem, Bool.and_self, eq_self]; done) | omega | (simp only [List.length_cons, List.length_nil]; omega)) only [go_sem, ↓reduceIte, Nat.reduceEqDiff, Nat.reduceAdd, Nat.reduceMul, Nat.reduceSub, Int.reduceToNat, Nat.reduceBEq, List.size_toArray, List.length_cons, List.length_nil, Bool.false_and, Bool.true_and, Bool.or_false, Bool.false_or, Bool.and_false, Bool.and_true], by simp (disch := first | (simp only [go_sem, Bool.and_self, eq_self]; done) | omega | (simp only [List.length_cons, List.length_nil]; omega)) only [go_sem, ↓reduceIte, Nat.reduceEqDiff, Nat.reduceAdd, Nat.reduceMul, Nat.reduceSub, Int.reduceToNat, Nat.reduceBEq, List.size_toArray, List.length_cons, List.length_nil, Bool.false_and, Bool.true_and, Bool.or_false, Bool.false_or, Bool.and_false, Bool.and_true], by omega⟩ ?_
  rintro i st h hi s5 ⟨s0, s1, s4, hg⟩
  by_cases hlt : i < a.length
  case neg =>
    have hab : a = b := list_ext_nth hl fun j hj => hg j (by omega)
    have hlt2 : ¬ (i : Int) < a.length := by omega
    subst hab
    simp (disch := first | (simp only [go_sem, Bool.and_self, eq_self]; done) | omega | (simp only [List.length_cons, List.length_nil]; omega)) only [go_sem, ↓reduceIte, Nat.reduceEqDiff, Nat.reduceAdd, Nat.reduceMul, Nat.reduceSub, Int.reduceToNat, Nat.reduceBEq, List.size_toArray, List.length_cons, List.length_nil, Bool.false_and, Bool.true_and, Bool.or_false, Bool.false_or, Bool.and_false, Bool.and_true, s0, s1, s4, s5, hlt]
  have hlb : i < b.length := by omega
  by_cases he : nth a i = nth b i
  · simp (disch := first | (simp only [go_sem, Bool.and_self, eq_self]; done) | omega | (simp only [List.length_cons, List.length_nil]; omega)) only [go_sem, ↓reduceIte, Nat.reduceEqDiff, Nat.reduceAdd, Nat.reduceMul, Nat.reduceSub, Int.reduceToNat, Nat.reduceBEq, List.size_toArray, List.length_cons, List.length_nil, Bool.false_and, Bool.true_and, Bool.or_false, Bool.false_or, Bool.and_false, Bool.and_true, s0, s1, s4, s5, hlt, hlb, he]
    rw [ForK_normal]
    exact ⟨hlt, by simp (disch := first | (simp only [go_sem, Bool.and_self, eq_self]; done) | omega | (simp only [List.length_cons, List.length_nil]; omega)) only [go_sem, ↓reduceIte, Nat.reduceEqDiff, Nat.reduceAdd, Nat.reduceMul, Nat.reduceSub, Int.reduceToNat, Nat.reduceBEq, List.size_toArray, List.length_cons, List.length_nil, Bool.false_and, Bool.true_and, Bool.or_false, Bool.false_or, Bool.and_false, Bool.and_true, s5], by simp (disch := first | (simp only [go_sem, Bool.and_self, eq_self]; done) | omega | (simp only [List.length_cons, List.length_nil]; omega)) only [go_sem, ↓reduceIte, Nat.reduceEqDiff, Nat.reduceAdd, Nat.reduceMul, Nat.reduceSub, Int.reduceToNat, Nat.reduceBEq, List.size_toArray, List.length_cons, List.length_nil, Bool.false_and, Bool.true_and, Bool.or_false, Bool.false_or, Bool.and_false, Bool.and_true, s0], by simp (disch := first | (simp only [go_sem, Bool.and_self, eq_self]; done) | omega | (simp only [List.length_cons, List.length_nil]; omega)) only [go_sem, ↓reduceIte, Nat.reduceEqDiff, Nat.reduceAdd, Nat.reduceMul, Nat.reduceSub, Int.reduceToNat, Nat.reduceBEq, List.size_toArray, List.length_cons, List.length_nil, Bool.false_and, Bool.true_and, Bool.or_false, Bool.false_or, Bool.and_false, Bool.and_true, s1], by simp (disch := first | (simp only [go_sem, Bool.and_self, eq_self]; done) | omega | (simp only [List.length_cons, List.length_nil]; omega)) only [go_sem, ↓reduceIte, Nat.reduceEqDiff, Nat.reduceAdd, Nat.reduceMul, Nat.reduceSub, Int.reduceToNat, Nat.reduceBEq, List.size_toArray, List.length_cons, List.length_nil, Bool.false_and, Bool.true_and, Bool.or_false, Bool.false_or, Bool.and_false, Bool.and_true, s4], fun j hj => by
      rcases Nat.lt_or_ge j i with h | h
      · exact hg j h
      · rw [show j = i by omega]; exact he⟩
  · have hr : ¬ a = b := fun h => he (by rw [h])
    simp (disch := first | (simp only [go_sem, Bool.and_self, eq_self]; done) | omega | (simp only [List.length_cons, List.length_nil]; omega)) only [go_sem, ↓reduceIte, Nat.reduceEqDiff, Nat.reduceAdd, Nat.reduceMul, Nat.reduceSub, Int.reduceToNat, Nat.reduceBEq, List.size_toArray, List.length_cons, List.length_nil, Bool.false_and, Bool.true_and, Bool.or_false, Bool.false_or, Bool.and_false, Bool.and_true, s0, s1, s4, s5, hlt, hlb, he, hr]
theorem f66_con (xs : List Int) (h0 : 0 < xs.length) (hl : xs.length ≤ 10) : Con Try.prog cfg 66 [LI xs] (.fresh 1 (xs.flatMap (e1 I))) := by
  have happ := fun (h : Hp) (hb : h.bl 0 = some (.cells false true [])) => app_own (P := Try.prog) (h := h) (f := e1 I) 3 8 (I 0) (LI xs) 0 [] xs 0 isz3 ibytes3 izero3 rfl hb rfl (cellsOf_L _ _) (lenA_L _ _) (by simp; omega) (by simp; omega)
  have hne : binA Try.prog .eql 25 (LI xs) .nil = some (.bool false) := by
    cases xs with
    | nil => simp at h0
    | cons x xs => rfl
  have hex : ∀ h : Hp, exportR Try.prog true false [25] (((h.alloc (.cells false true [])).put 0 none).alloc (.cells false true (xs.flatMap (e1 I)))) (.sl (h.nx + 1) 0 xs.length 1) = some (.fresh 1 (xs.flatMap (e1 I))) := fun h =>
    export_fresh (f := e1 I) false 25 3 und25 rfl (.inr ⟨h.nx + 1, rfl, by simp [Hp.alloc, Hp.put], by simp [Hp.alloc, Hp.put]⟩)
  refine Con_intro Try.func66 rfl ok66 (Nat.le_of_ble_eq_true rfl) rfl ?_
  simp only [Try.f66, Option.getD_some, initSt1]
  have hbs := fun h => bsB_empty (P := Try.prog) (h := h) 3 1 (I 0) isz3 izero3 Nat.one_pos
  simp (disch := first | (simp only [go_sem, Bool.and_self, eq_self]; done) | omega | (simp only [List.length_cons, List.length_nil]; omega)) only [go_sem, ↓reduceIte, Nat.reduceEqDiff, Nat.reduceAdd, Nat.reduceMul, Nat.reduceSub, Int.reduceToNat, Nat.reduceBEq, List.size_toArray, List.length_cons, List.length_nil, Bool.false_and, Bool.true_and, Bool.or_false, Bool.false_or, Bool.and_false, Bool.and_true, hne, hbs]
  have happ' := happ (Hp.empty.alloc (.cells false true [])) (by simp [Hp.alloc, Hp.empty])
  simp only [List.length_nil, Nat.zero_add, List.nil_append] at happ'
  simp (disch := first | (simp only [go_sem, Bool.and_self, eq_self]; done) | omega | (simp only [List.length_cons, List.length_nil]; omega)) only [go_sem, ↓reduceIte, Nat.reduceEqDiff, Nat.reduceAdd, Nat.reduceMul, Nat.reduceSub, Int.reduceToNat, Nat.reduceBEq, List.size_toArray, List.length_cons, List.length_nil, Bool.false_and, Bool.true_and, Bool.or_false, Bool.false_or, Bool.and_false, Bool.and_true, happ']
  exact hex Hp.empty
end Go.Proofs.Ytpkakapbepkfdaa

set_option linter.unusedVariables false
set_option linter.unusedSimpArgs false
set_option maxRecDepth 10000
namespace Go.Proofs.Ytpkakapbepkfdaa
open Go Go.Am

variable {h h' : Hp} {K : AV → Hp → Prop}

structure FF (c : List AV) (P T : List (List Int)) (v w : AV) (h : Hp) : Prop where
  nx : 3 ≤ h.nx
  b0 : h.bl 0 = some (.cells false false c)
  b1 : h.bl 1 = some (.cells false false [.nil, .nil])
  b2 : h.bl 2 = some (.cells false false [v, w])
  ov : Own (e1 LI) 1 h v P
  ow : Own (e1 LI) 1 h w T
  d : Dis v w
/-- One row more for the first list: whatever it comes from ('x', sealed). -/
theorem FF.step1 {c : List AV} {P T : List (List Int)} {v w : AV} (F : FF c P T v w h) (r : List Int) (hP : P.length ≤ 20) :
    ∃ G V, appB Try.prog h (some (.slice 25)) true v (.lst [[LI r]]) = some (V, G) ∧ V.isCell = true ∧ G.nx = h.nx + 1 ∧ G.bl 0 = some (.cells false false c) ∧ G.bl 2 = some (.cells false false [v, w]) ∧
      (∀ g, storeC g 2 0 1 (some (.cells false false [v, w])) V.cells = some (.skp, g.put 2 (some (.cells false false [V, w])))) ∧ FF c (P ++ [r]) T V w (G.put 2 (some (.cells false false [V, w]))) ∧
      ∀ y ys, Own (e1 I) 1 h y ys → Dis v y → Own (e1 I) 1 (G.put 2 (some (.cells false false [V, w]))) y ys ∧ Dis V y := by
  have hap := app_one (P := Try.prog) F.ov 25 24 .nil r isz25 ibytes25 izero25 rfl (by omega) (by omega)
  have hn := F.nx
  have c0 := (appH_bl h v ((P ++ [r]).flatMap (e1 LI)) 0 (by omega) (own_ne F.ov F.b0)).trans F.b0
  have c1 := (appH_bl h v ((P ++ [r]).flatMap (e1 LI)) 1 (by omega) (own_ne F.ov F.b1)).trans F.b1
  have c2 := (appH_bl h v ((P ++ [r]).flatMap (e1 LI)) 2 (by omega) (own_ne F.ov F.b2)).trans F.b2
  have cn := appH_nx h v ((P ++ [r]).flatMap (e1 LI))
  have oV := Own.app (f := e1 LI) (sz := 1) h v (P ++ [r])
  have ow1 := Own.keep F.ow F.d ((P ++ [r]).flatMap (e1 LI))
  have dVw := Own.dis F.ow (P ++ [r]).length 1
  refine ⟨_, _, hap, own_cell oV, cn, c0, c2, fun g => store_fst (own_cell oV), ⟨?_, ?_, ?_, ?_, own_put oV c2 _, own_put ow1 c2 _, dVw⟩, fun y ys oy dy => ⟨own_put (Own.keep oy dy _) c2 _, oy.dis _ _⟩⟩
  · rw [put_nx, cn]; omega
  · rw [put_bl, if_neg (by decide)]; exact c0
  · rw [put_bl, if_neg (by decide)]; exact c1
  · rw [put_bl, if_pos rfl]
theorem FF.step2 {c : List AV} {P T : List (List Int)} {v w : AV} (F : FF c P T v w h) (r : List Int) (hT : T.length ≤ 20) :
    ∃ G V, appB Try.prog h (some (.slice 25)) true w (.lst [[LI r]]) = some (V, G) ∧ V.isCell = true ∧ G.nx = h.nx + 1 ∧ G.bl 0 = some (.cells false false c) ∧ G.bl 2 = some (.cells false false [v, w]) ∧
      (∀ g, storeC g 2 1 1 (some (.cells false false [v, w])) V.cells = some (.skp, g.put 2 (some (.cells false false [v, V])))) ∧ FF c P (T ++ [r]) v V (G.put 2 (some (.cells false false [v, V]))) := by
  have hap := app_one (P := Try.prog) F.ow 25 24 .nil r isz25 ibytes25 izero25 rfl (by omega) (by omega)
  have hn := F.nx
  have c0 := (appH_bl h w ((T ++ [r]).flatMap (e1 LI)) 0 (by omega) (own_ne F.ow F.b0)).trans F.b0
  have c1 := (appH_bl h w ((T ++ [r]).flatMap (e1 LI)) 1 (by omega) (own_ne F.ow F.b1)).trans F.b1
  have c2 := (appH_bl h w ((T ++ [r]).flatMap (e1 LI)) 2 (by omega) (own_ne F.ow F.b2)).trans F.b2
  have cn := appH_nx h w ((T ++ [r]).flatMap (e1 LI))
  have oW := Own.app (f := e1 LI) (sz := 1) h w (T ++ [r])
  have ov1 := Own.keep F.ov F.d.symm ((T ++ [r]).flatMap (e1 LI))
  have dVw := Own.dis F.ov (T ++ [r]).length 1
  refine ⟨_, _, hap, own_cell oW, cn, c0, c2, fun g => store_snd (own_cell oW), ?_, ?_, ?_, ?_, own_put ov1 c2 _, own_put oW c2 _, dVw.symm⟩
  · rw [put_nx, cn]; omega
  · rw [put_bl, if_neg (by decide)]; exact c0
  · rw [put_bl, if_neg (by decide)]; exact c1
  · rw [put_bl, if_pos rfl]
theorem FF.shut {c : List AV} {P T : List (List Int)} {v w x : AV} {r : List Int} (F : FF c P T v w h) (ox : Own (e1 I) 1 h x r) (dv : Dis x v) (dw : Dis x w) :
    ∃ h1, sealA h x = some (LI r, h1) ∧ FF c P T v w h1 ∧ ∀ y ys, Own (e1 I) 1 h y ys → Dis x y → Own (e1 I) 1 h1 y ys := by
  obtain ⟨h1, hs, hn, hb⟩ := sealA_Own ox
  have hF := F.nx
  exact ⟨h1, hs, ⟨by omega, (hb 0 (own_ne ox F.b0)).trans F.b0, (hb 1 (own_ne ox F.b1)).trans F.b1, (hb 2 (own_ne ox F.b2)).trans F.b2, Own.keepX F.ov (by omega) (fun i _ hne => hb i hne) dv, Own.keepX F.ow (by omega) (fun i _ hne => hb i hne) dw, F.d⟩,
    fun y ys oy dy => Own.keepX oy (by omega) (fun i _ hne => hb i hne) dy⟩
theorem FF.alloc {c : List AV} {P T : List (List Int)} {v w : AV} (F : FF c P T v w h) (r : List Int) : FF c P T v w (h.alloc (.cells false true (r.flatMap (e1 I)))) ∧ Own (e1 I) 1 (h.alloc (.cells false true (r.flatMap (e1 I)))) (.sl h.nx 0 r.length 1) r ∧ Dis (.sl h.nx 0 r.length 1) v ∧ Dis (.sl h.nx 0 r.length 1) w ∧
    ∀ y ys, Own (e1 I) 1 h y ys → Own (e1 I) 1 (h.alloc (.cells false true (r.flatMap (e1 I)))) y ys ∧ Dis y (.sl h.nx 0 r.length 1) := by
  have hF := F.nx
  have hb : ∀ i, i < h.nx → (h.alloc (.cells false true (r.flatMap (e1 I)))).bl i = h.bl i := fun i hi => by simp [Hp.alloc, show ¬ i = h.nx by omega]
  have hn : (h.alloc (.cells false true (r.flatMap (e1 I)))).nx = h.nx + 1 := rfl
  exact ⟨⟨by omega, (hb 0 (by omega)).trans F.b0, (hb 1 (by omega)).trans F.b1, (hb 2 (by omega)).trans F.b2, F.ov.mono (by omega) hb, F.ow.mono (by omega) hb, F.d⟩, .inr ⟨h.nx, rfl, by omega, by simp [Hp.alloc]⟩,
    F.ov.dis r.length 1, F.ow.dis r.length 1, fun y ys oy => ⟨oy.mono (by omega) hb, (oy.dis r.length 1).symm⟩⟩
theorem clone_con (r : List Int) (hr : r.length ≤ 10) : Con Try.prog cfgX 66 [LI r] (.fresh 1 (r.flatMap (e1 I))) := by
  cases r with
  | nil => exact clone_nil
  | cons a r => exact lift66 (fun h => by simp at h) (f66_con (a :: r) (by simp) hr)

end Go.Proofs.Ytpkakapbepkfdaa

set_option linter.unusedVariables false
set_option linter.unusedSimpArgs false
set_option maxRecDepth 10000
namespace Go.Proofs.Ytpkakapbepkfdaa
open Go Go.Am

variable {h h' : Hp} {K : AV → Hp → Prop}

theorem f43_con (p t : List (List Int)) (hp : okLL p) (ht : okLL t) : Con Try.prog cfg 43 [.agg [LLI p, LLI t], .agg [LLI p, LLI t]] (.bool true) := by
  have ml : maxLen = 9223372036854775807 := by decide
  have hpl := hp.1
  have htl := ht.1
  refine Con_intro Try.func43 rfl ok43 (Nat.le_of_ble_eq_true rfl) rfl ?_
  simp only [Try.f43, Option.getD_some, initSt2]
  simp (disch := first | (simp only [go_sem, Bool.and_self, eq_self]; done) | omega | (simp only [List.length_cons, List.length_nil]; omega)) only [go_sem, ↓reduceIte, Nat.reduceEqDiff, Nat.reduceAdd, Nat.reduceMul, Nat.reduceSub, Int.reduceToNat, Nat.reduceBEq, List.size_toArray, List.length_cons, List.length_nil, Bool.false_and, Bool.true_and, Bool.or_false, Bool.false_or, Bool.and_false, Bool.and_true, eq_self, decide_true]
  refine WP_cut (fun st h => st 2 = .ptr 0 0 ∧ st 3 = .ptr 1 0 ∧ st 4 = .bool false ∧ 2 ≤ h.nx ∧ h.bl 0 = some (.cells false false [LLI p, LLI t]) ∧ h.bl 1 = some (.cells false false [LLI p, LLI t])) ?_ ?_
  · refine WP_for 5 p.length (fun i st h => st 2 = .ptr 0 0 ∧ st 3 = .ptr 1 0 ∧ st 4 = .bool false ∧ 2 ≤ h.nx ∧ h.bl 0 = some (.cells false false [LLI p, LLI t]) ∧ h.bl 1 = some (.cells false false [LLI p, LLI t])) (by simp (disch := first | (simp only [go_sem, Bool.and_self, eq_self]; done) | omega | (simp only [List.length_cons, List.length_nil]; omega)) only [go_sem, ↓reduceIte, Nat.reduceEqDiff, Nat.reduceAdd, Nat.reduceMul, Nat.reduceSub, Int.reduceToNat, Nat.reduceBEq, List.size_toArray, List.length_cons, List.length_nil, Bool.false_and, Bool.true_and, Bool.or_false, Bool.false_or, Bool.and_false, Bool.and_true]) ⟨by simp (disch := first | (simp only [go_sem, Bool.and_self, eq_self]; done) | omega | (simp only [List.length_cons, List.length_nil]; omega)) only [go_sem, ↓reduceIte, Nat.reduceEqDiff, Nat.reduceAdd, Nat.reduceMul, Nat.reduceSub, Int.reduceToNat, Nat.reduceBEq, List.size_toArray, List.length_cons, List.length_nil, Bool.false_and, Bool.true_and, Bool.or_false, Bool.false_or, Bool.and_false, Bool.and_true], by simp (disch := first | (simp only [go_sem, Bool.and_self, eq_self]; done) | omega | (simp only [List.length_cons, List.length_nil]; omega)) only [go_sem, ↓reduceIte, Nat.reduceEqDiff, Nat.reduceAdd, Nat.reduceMul, Nat.reduceSub, Int.reduceToNat, Nat.reduceBEq, List.size_toArray, List.length_cons, List.length_nil, Bool.false_and, Bool.true_and, Bool.or_false, Bool.false_or, Bool.and_false, Bool.and_true], by simp (disch := first | (simp only [go_sem, Bool.and_self, eq_self]; done) | omega | (simp only [List.length_cons, List.length_nil]; omega)) only [go_sem, ↓reduceIte, Nat.reduceEqDiff, Nat.reduceAdd, Nat.reduceMul, Nat.reduceSub, Int.reduceToNat, Nat.reduceBEq, List.size_toArray, List.length_cons, List.length_nil, Bool.false_and, Bool.true_and, Bool.or_false, Bool.false_or, Bool.and_false, Bool.and_true], by simp (disch := first | (simp only [go_sem, Bool.and_self, eq_self]; done) | omega | (simp only [List.length_cons, List.length_nil]; omega)) only [go_sem, ↓reduceIte, Nat.reduceEqDiff, Nat.reduceAdd, Nat.reduceMul, Nat.reduceSub, Int.reduceToNat, Nat.reduceBEq, List.size_toArray, List.length_cons, List.length_nil, Bool.false_and, Bool.true_and, Bool.or_false, Bool.false_or, Bool.and_false, Bool.and_true]; decide, by simp (disch := first | (simp only [go_sem, Bool.and_self, eq_self]; done) | omega | (simp only [List.length_cons, List.length_nil]; omega)) only [go_sem, ↓reduceIte, Nat.reduceEqDiff, Nat.reduceAdd, Nat.reduceMul, Nat.reduceSub, Int.reduceToNat, Nat.reduceBEq, List.size_toArray, List.length_cons, List.length_nil, Bool.false_and, Bool.true_and, Bool.or_false, Bool.false_or, Bool.and_false, Bool.and_true], by simp (disch := first | (simp only [go_sem, Bool.and_self, eq_self]; done) | omega | (simp only [List.length_cons, List.length_nil]; omega)) only [go_sem, ↓reduceIte, Nat.reduceEqDiff, Nat.reduceAdd, Nat.reduceMul, Nat.reduceSub, Int.reduceToNat, Nat.reduceBEq, List.size_toArray, List.length_cons, List.length_nil, Bool.false_and, Bool.true_and, Bool.or_false, Bool.false_or, Bool.and_false, Bool.and_true]⟩ ?_
    rintro i st h hi s5 ⟨s2, s3, s4, hnx, b0, b1⟩
    by_cases hlt : i < p.length
    case neg =>
      simp (disch := first | (simp only [go_sem, Bool.and_self, eq_self]; done) | omega | (simp only [List.length_cons, List.length_nil]; omega)) only [go_sem, ↓reduceIte, Nat.reduceEqDiff, Nat.reduceAdd, Nat.reduceMul, Nat.reduceSub, Int.reduceToNat, Nat.reduceBEq, List.size_toArray, List.length_cons, List.length_nil, Bool.false_and, Bool.true_and, Bool.or_false, Bool.false_or, Bool.and_false, Bool.and_true, s2, s3, s4, s5, hlt, b0]
      exact ⟨hnx, b1⟩
    have hm := hp.2 _ (nth_mem hlt)
    have l0 : 0 < h.nx := by omega
    have l1 : 1 < h.nx := by omega
    have k39 := fun h h' K => ConW_num (h := h) (h' := h') (K := K) (f39_con (nth p i) (nth p i) hm hm) rfl
    simp (disch := first | (simp only [go_sem, Bool.and_self, eq_self]; done) | omega | (simp only [List.length_cons, List.length_nil]; omega)) only [go_sem, ↓reduceIte, Nat.reduceEqDiff, Nat.reduceAdd, Nat.reduceMul, Nat.reduceSub, Int.reduceToNat, Nat.reduceBEq, List.size_toArray, List.length_cons, List.length_nil, Bool.false_and, Bool.true_and, Bool.or_false, Bool.false_or, Bool.and_false, Bool.and_true, s2, s3, s4, s5, hlt, b0, b1, l0, l1, k39, eq_self, decide_true]
    rw [ForK_normal]
    exact ⟨hlt, by simp (disch := first | (simp only [go_sem, Bool.and_self, eq_self]; done) | omega | (simp only [List.length_cons, List.length_nil]; omega)) only [go_sem, ↓reduceIte, Nat.reduceEqDiff, Nat.reduceAdd, Nat.reduceMul, Nat.reduceSub, Int.reduceToNat, Nat.reduceBEq, List.size_toArray, List.length_cons, List.length_nil, Bool.false_and, Bool.true_and, Bool.or_false, Bool.false_or, Bool.and_false, Bool.and_true, s5], by simp (disch := first | (simp only [go_sem, Bool.and_self, eq_self]; done) | omega | (simp only [List.length_cons, List.length_nil]; omega)) only [go_sem, ↓reduceIte, Nat.reduceEqDiff, Nat.reduceAdd, Nat.reduceMul, Nat.reduceSub, Int.reduceToNat, Nat.reduceBEq, List.size_toArray, List.length_cons, List.length_nil, Bool.false_and, Bool.true_and, Bool.or_false, Bool.false_or, Bool.and_false, Bool.and_true, s2], by simp (disch := first | (simp only [go_sem, Bool.and_self, eq_self]; done) | omega | (simp only [List.length_cons, List.length_nil]; omega)) only [go_sem, ↓reduceIte, Nat.reduceEqDiff, Nat.reduceAdd, Nat.reduceMul, Nat.reduceSub, Int.reduceToNat, Nat.reduceBEq, List.size_toArray, List.length_cons, List.length_nil, Bool.false_and, Bool.true_and, Bool.or_false, Bool.false_or, Bool.and_false, Bool.and_true, s3], by simp (disch := first | (simp only [go_sem, Bool.and_self, eq_self]; done) | omega | (simp only [List.length_cons, List.length_nil]; omega)) only [go_sem, ↓reduceIte, Nat.reduceEqDiff, Nat.reduceAdd, Nat.reduceMul, Nat.reduceSub, Int.reduceToNat, Nat.reduceBEq, List.size_toArray, List.length_cons, List.length_nil, Bool.false_and, Bool.true_and, Bool.or_false, Bool.false_or, Bool.and_false, Bool.and_true, s4], hnx, b0, b1⟩
  rintro st h ⟨s2, s3, s4, hnx, b0, b1⟩
  simp (disch := first | (simp only [go_sem, Bool.and_self, eq_self]; done) | omega | (simp only [List.length_cons, List.length_nil]; omega)) only [go_sem, ↓reduceIte, Nat.reduceEqDiff, Nat.reduceAdd, Nat.reduceMul, Nat.reduceSub, Int.reduceToNat, Nat.reduceBEq, List.size_toArray, List.length_cons, List.length_nil, Bool.false_and, Bool.true_and, Bool.or_false, Bool.false_or, Bool.and_false, Bool.and_true, s2, s3, s4]
  refine WP_cut (fun st h => st 4 = .bool false) ?_ ?_
  · refine WP_for 6 t.length (fun i st h => st 2 = .ptr 0 0 ∧ st 3 = .ptr 1 0 ∧ st 4 = .bool false ∧ 2 ≤ h.nx ∧ h.bl 0 = some (.cells false false [LLI p, LLI t]) ∧ h.bl 1 = some (.cells false false [LLI p, LLI t])) (by simp (disch := first | (simp only [go_sem, Bool.and_self, eq_self]; done) | omega | (simp only [List.length_cons, List.length_nil]; omega)) only [go_sem, ↓reduceIte, Nat.reduceEqDiff, Nat.reduceAdd, Nat.reduceMul, Nat.reduceSub, Int.reduceToNat, Nat.reduceBEq, List.size_toArray, List.length_cons, List.length_nil, Bool.false_and, Bool.true_and, Bool.or_false, Bool.false_or, Bool.and_false, Bool.and_true]) ⟨by simp (disch := first | (simp only [go_sem, Bool.and_self, eq_self]; done) | omega | (simp only [List.length_cons, List.length_nil]; omega)) only [go_sem, ↓reduceIte, Nat.reduceEqDiff, Nat.reduceAdd, Nat.reduceMul, Nat.reduceSub, Int.reduceToNat, Nat.reduceBEq, List.size_toArray, List.length_cons, List.length_nil, Bool.false_and, Bool.true_and, Bool.or_false, Bool.false_or, Bool.and_false, Bool.and_true, s2], by simp (disch := first | (simp only [go_sem, Bool.and_self, eq_self]; done) | omega | (simp only [List.length_cons, List.length_nil]; omega)) only [go_sem, ↓reduceIte, Nat.reduceEqDiff, Nat.reduceAdd, Nat.reduceMul, Nat.reduceSub, Int.reduceToNat, Nat.reduceBEq, List.size_toArray, List.length_cons, List.length_nil, Bool.false_and, Bool.true_and, Bool.or_false, Bool.false_or, Bool.and_false, Bool.and_true, s3], by simp (disch := first | (simp only [go_sem, Bool.and_self, eq_self]; done) | omega | (simp only [List.length_cons, List.length_nil]; omega)) only [go_sem, ↓reduceIte, Nat.reduceEqDiff, Nat.reduceAdd, Nat.reduceMul, Nat.reduceSub, Int.reduceToNat, Nat.reduceBEq, List.size_toArray, List.length_cons, List.length_nil, Bool.false_and, Bool.true_and, Bool.or_false, Bool.false_or, Bool.and_false, Bool.and_true, s4], hnx, b0, b1⟩ ?_
    rintro i st h hi s6 ⟨s2, s3, s4, hnx, b0, b1⟩
    by_cases hlt : i < t.length
    case neg =>
      simp (disch := first | (simp only [go_sem, Bool.and_self, eq_self]; done) | omega | (simp only [List.length_cons, List.length_nil]; omega)) only [go_sem, ↓reduceIte, Nat.reduceEqDiff, Nat.reduceAdd, Nat.reduceMul, Nat.reduceSub, Int.reduceToNat, Nat.reduceBEq, List.size_toArray, List.length_cons, List.length_nil, Bool.false_and, Bool.true_and, Bool.or_false, Bool.false_or, Bool.and_false, Bool.and_true, s2, s3, s4, s6, hlt, b0]
    have hm := ht.2 _ (nth_mem hlt)
    have l0 : 0 < h.nx := by omega
    have l1 : 1 < h.nx := by omega
    have k39 := fun h h' K => ConW_num (h := h) (h' := h') (K := K) (f39_con (nth t i) (nth t i) hm hm) rfl
    simp (disch := first | (simp only [go_sem, Bool.and_self, eq_self]; done) | omega | (simp only [List.length_cons, List.length_nil]; omega)) only [go_sem, ↓reduceIte, Nat.reduceEqDiff, Nat.reduceAdd, Nat.reduceMul, Nat.reduceSub, Int.reduceToNat, Nat.reduceBEq, List.size_toArray, List.length_cons, List.length_nil, Bool.false_and, Bool.true_and, Bool.or_false, Bool.false_or, Bool.and_false, Bool.and_true, s2, s3, s4, s6, hlt, b0, b1, l0, l1, k39, eq_self, decide_true]
    rw [ForK_normal]
    exact ⟨hlt, by simp (disch := first | (simp only [go_sem, Bool.and_self, eq_self]; done) | omega | (simp only [List.length_cons, List.length_nil]; omega)) only [go_sem, ↓reduceIte, Nat.reduceEqDiff, Nat.reduceAdd, Nat.reduceMul, Nat.reduceSub, Int.reduceToNat, Nat.reduceBEq, List.size_toArray, List.length_cons, List.length_nil, Bool.false_and, Bool.true_and, Bool.or_false, Bool.false_or, Bool.and_false, Bool.and_true, s6], by simp (disch := first | (simp only [go_sem, Bool.and_self, eq_self]; done) | omega | (simp only [List.length_cons, List.length_nil]; omega)) only [go_sem, ↓reduceIte, Nat.reduceEqDiff, Nat.reduceAdd, Nat.reduceMul, Nat.reduceSub, Int.reduceToNat, Nat.reduceBEq, List.size_toArray, List.length_cons, List.length_nil, Bool.false_and, Bool.true_and, Bool.or_false, Bool.false_or, Bool.and_false, Bool.and_true, s2], by simp (disch := first | (simp only [go_sem, Bool.and_self, eq_self]; done) | omega | (simp only [List.length_cons, List.length_nil]; omega)) only [go_sem, ↓reduceIte, Nat.reduceEqDiff, Nat.reduceAdd, Nat.reduceMul, Nat.reduceSub, Int.reduceToNat, Nat.reduceBEq, List.size_toArray, List.length_cons, List.length_nil, Bool.false_and, Bool.true_and, Bool.or_false, Bool.false_or, Bool.and_false, Bool.and_true, s3], by simp (disch := first | (simp only [go_sem, Bool.and_self, eq_self]; done) | omega | (simp only [List.length_cons, List.length_nil]; omega)) only [go_sem, ↓reduceIte, Nat.reduceEqDiff, Nat.reduceAdd, Nat.reduceMul, Nat.reduceSub, Int.reduceToNat, Nat.reduceBEq, List.size_toArray, List.length_cons, List.length_nil, Bool.false_and, Bool.true_and, Bool.or_false, Bool.false_or, Bool.and_false, Bool.and_true, s4], hnx, b0, b1⟩
  · rintro st h s4
    simp (disch := first | (simp only [go_sem, Bool.and_self, eq_self]; done) | omega | (simp only [List.length_cons, List.length_nil]; omega)) only [go_sem, ↓reduceIte, Nat.reduceEqDiff, Nat.reduceAdd, Nat.reduceMul, Nat.reduceSub, Int.reduceToNat, Nat.reduceBEq, List.size_toArray, List.length_cons, List.length_nil, Bool.false_and, Bool.true_and, Bool.or_false, Bool.false_or, Bool.and_false, Bool.and_true, s4]

/-! ### The forced network is one -/
end Go.Proofs.Ytpkakapbepkfdaa

set_option linter.unusedVariables false
set_option linter.unusedSimpArgs false
set_option maxRecDepth 10000
namespace Go.Proofs.Ytpkakapbepkfdaa
open Go Go.Am

variable {h h' : Hp} {K : AV → Hp → Prop}

section
variable {c : Cfg} {st : St} {ops : Array Oper} {lim : Option Nat}
end
theorem netR_any (p t : List (List Int)) : (netR p t).isScalar = false := by unfold netR; split <;> rfl
end Go.Proofs.Ytpkakapbepkfdaa

set_option linter.unusedVariables false
set_option linter.unusedSimpArgs false
set_option maxRecDepth 10000
namespace Go.Proofs.Ytpkakapbepkfdaa
open Go Go.Am

variable {h h' : Hp} {K : AV → Hp → Prop}

end Go.Proofs.Ytpkakapbepkfdaa

set_option linter.unusedVariables false
set_option linter.unusedSimpArgs false
set_option maxRecDepth 10000
namespace Go.Proofs.Ytpkakapbepkfdaa
open Go Go.Am

variable {h h' : Hp} {K : AV → Hp → Prop}

/-- A list of pairs that is built, sealed or not. -/
def Sld (h : Hp) (v : AV) (xs : List (Int × Int)) : Prop :=
  (v = .nil ∧ xs = []) ∨ ∃ id fz, v = .sl id 0 xs.length 2 ∧ id < h.nx ∧ h.bl id = some (.cells fz true (xs.flatMap eP))
theorem Sld.keep {v : AV} {xs : List (Int × Int)} (o : Sld h v xs) (hn : h.nx ≤ h'.nx) (hb : ∀ i, i < h.nx → h'.bl i = h.bl i) : Sld h' v xs := by
  rcases o with o | ⟨id, fz, e, hi, hc⟩
  · exact .inl o
  · exact .inr ⟨id, fz, e, by omega, (hb id hi).trans hc⟩
theorem Sld.shut {v : AV} {xs : List (Int × Int)} (o : Sld h v xs) : ∃ h', sealA h v = some (LP xs, h') ∧ h'.nx = h.nx ∧ Sld h' v xs ∧ ∀ i fz flat, h.bl i = some (.cells fz false flat) → h'.bl i = some (.cells fz false flat) := by
  rcases o with ⟨rfl, rfl⟩ | ⟨id, fz, rfl, hi, hc⟩
  · exact ⟨h, rfl, rfl, .inl ⟨rfl, rfl⟩, fun _ _ _ h => h⟩
  · refine ⟨h.put id (some (.cells true true (xs.flatMap eP))), by rw [sealA_sl, hc, sealSl_own id _ fz true xs rfl], rfl, .inr ⟨id, true, rfl, hi, by simp [Hp.put]⟩, fun i fz' flat hb => ?_⟩
    have : i ≠ id := by rintro rfl; rw [hc] at hb; cases hb
    simp [Hp.put, this, hb]
end Go.Proofs.Ytpkakapbepkfdaa
