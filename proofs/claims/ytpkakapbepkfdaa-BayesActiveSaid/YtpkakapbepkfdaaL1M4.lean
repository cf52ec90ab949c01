/-
  graph: the set, and what is in it or has a descendant there.
  open, Active.
  'BayesActive' answers true.
-/
import Derived.Test.YtpkakapbepkfdaaL1M3
set_option linter.unusedVariables false
set_option linter.unusedSimpArgs false
set_option maxRecDepth 10000
namespace Go.Proofs.Ytpkakapbepkfdaa
open Go Go.Am

section
variable {c : Cfg} {h : Hp} {K : AV → Hp → Prop} {ops : Array Oper} {lim : Option Nat} {st : St}
@[go_sem ↓ high] theorem W_b99z : StepW Try.prog c ops lim (.build 99 #[]) st h K = K (.agg [.nil, .nil, I 0, .nilmp, .nilmp]) h := by
  rw [W_build, show buildB Try.prog (Try.prog.underlying 99) (izero Try.prog 99) ((#[] : Array (Nat × Operand)).toList.map fun p => (p.1, ev st p.2)) = some (.agg [.nil, .nil, I 0, .nilmp, .nilmp]) by kernel_rfl]
  exact getW_some _
noncomputable def mk99 (x y z : AV) : Option AV := buildB Try.prog (Try.prog.underlying 99) (izero Try.prog 99) [(0, x), (1, y), (2, z)]
@[go_sem ↓ high] theorem W_b99 (a b d : Operand) : StepW Try.prog c ops lim (.build 99 #[(0, a), (1, b), (2, d)]) st h K = getW (mk99 (ev st a) (ev st b) (ev st d)) h K := by
  rw [W_build]; rfl
@[go_sem] theorem mk99_mp (p t : List (List Int)) (n : Int) (a b : Nat) : mk99 (.agg [LLI p, LLI t, I n]) (.mp a) (.mp b) = some (.agg [LLI p, LLI t, I n, .mp a, .mp b]) := by kernel_rfl
end
variable {h h' : Hp} {K : AV → Hp → Prop}

def entB (ks : List Int) : List (Int × AV) := ks.map fun k => (k, .bool true)
theorem findK_B (ks : List Int) (n : Int) : findK n (entB ks) = if n ∈ ks then some (.bool true) else none := by
  induction ks with
  | nil => rfl
  | cons k ks ih =>
    simp only [entB, List.map_cons, findK] at ih ⊢
    by_cases h : n = k
    · simp [h]
    · rw [if_neg h, ih]; simp [h]
theorem putK_B (ks : List Int) (n : Int) : putK n (.bool true) (entB ks) = entB (if n ∈ ks then ks else ks ++ [n]) := by
  induction ks with
  | nil => rfl
  | cons k ks ih =>
    simp only [entB, List.map_cons, putK] at ih ⊢
    by_cases h : n = k
    · subst h; simp
    · rw [if_neg h, ih]
      by_cases h2 : n ∈ ks
      · simp [h2]
      · simp [h, h2]
theorem look_B (id : Nat) (fz : Bool) (ks : List Int) (n : Int) : lookB (some (.map 3 4)) (some (.int .i64)) (some (.bool false)) (.mp id) (some (.mp fz (entB ks))) true (I n) false = some (.bool (hasB ks n)) := by
  rw [lookB_one _ _ _ _ _ _ _ _ _ rfl, findK_B]
  by_cases h : n ∈ ks <;> simp [h, hasB]
def insK (ks : List Int) (n : Int) : List Int := if n ∈ ks then ks else ks ++ [n]
theorem mem_insK {ks : List Int} {n x : Int} : x ∈ insK ks n ↔ x ∈ ks ∨ x = n := by
  unfold insK
  split
  · rename_i h
    constructor
    · exact .inl
    · rintro (h2 | rfl)
      · exact h2
      · exact h
  · simp
def DownK (c : Nat) (J : Nat → St → Hp → Prop) (m : Nat) (Q : Exit → St → Hp → Prop) : Exit → St → Hp → Prop := fun x st h => match x with | .normal => 0 < m ∧ st c = I ((m : Int) - 1 - 1) ∧ J (m - 1) st h | x => Q x st h
theorem DownK_normal (c : Nat) (J : Nat → St → Hp → Prop) (m : Nat) (Q : Exit → St → Hp → Prop) (st : St) : DownK c J m Q .normal st h = (0 < m ∧ st c = I ((m : Int) - 1 - 1) ∧ J (m - 1) st h) := rfl
@[go_sem ↓] theorem DownK_exit (c : Nat) (J : Nat → St → Hp → Prop) (m j : Nat) (Q : Exit → St → Hp → Prop) (st : St) : DownK c J m Q (.exit j) st h = Q (.exit j) st h := rfl
@[go_sem ↓] theorem DownK_ret (c : Nat) (J : Nat → St → Hp → Prop) (m : Nat) (Q : Exit → St → Hp → Prop) (st : St) : DownK c J m Q .ret st h = Q .ret st h := rfl
theorem WP_down {P : Program} {cfg : Cfg} {st : St} {h : Hp} {Q : Exit → St → Hp → Prop} {b : Code} (c n : Nat) (J : Nat → St → Hp → Prop) (h0 : st c = I ((n : Int) - 1)) (hJ : J n st h)
    (step : ∀ (m : Nat) st h, m ≤ n → st c = I ((m : Int) - 1) → J m st h → WP P cfg b st h (DownK c J m Q)) : WP P cfg (.loop b) st h Q := by
  refine WP_loopK (fun m st h => m ≤ n ∧ st c = I ((m : Int) - 1) ∧ J m st h) n ⟨Nat.le_refl _, h0, hJ⟩ ?_
  rintro m st h ⟨hm, hc, hj⟩
  refine WP_mono (step m st h hm hc hj) fun x s' g hx => ?_
  cases x with
  | normal =>
    obtain ⟨h1, h2, h3⟩ := hx
    exact ⟨m - 1, by omega, by omega, by rw [h2]; congr 1; omega, h3⟩
  | exit j => exact hx
  | _ => exact hx

/-- What 'graph' leaves in memory. -/
structure GrB (p t : List (List Int)) (A : Nat) (ks ls : List Int) (H h : Hp) : Prop where
  nx : h.nx = A + 5
  old : ∀ id, id < A → h.bl id = H.bl id
  b0 : h.bl A = some (.cells false false [LLI p, LLI t, I p.length])
  b1 : h.bl (A + 1) = some (.cells false false [.nil, .nil, I 0, .nilmp, .nilmp])
  b2 : h.bl (A + 2) = some (.mp false (entB ks))
  b3 : h.bl (A + 3) = some (.mp false (entB ls))
  b4 : h.bl (A + 4) = some (.cells false false [LLI p, LLI t, I p.length, .mp (A + 2), .mp (A + 3)])
theorem GrB.put2 {p t : List (List Int)} {A : Nat} {ks ls ks' : List Int} {H h : Hp} (G : GrB p t A ks ls H h) : GrB p t A ks' ls H (h.put (A + 2) (some (.mp false (entB ks')))) :=
  ⟨G.nx, fun id hid => by rw [put_bl, if_neg (by omega)]; exact G.old id hid, by rw [put_bl, if_neg (by omega)]; exact G.b0, by rw [put_bl, if_neg (by omega)]; exact G.b1, by rw [put_bl, if_pos rfl], by rw [put_bl, if_neg (by omega)]; exact G.b3, by rw [put_bl, if_neg (by omega)]; exact G.b4⟩
theorem GrB.put3 {p t : List (List Int)} {A : Nat} {ks ls ls' : List Int} {H h : Hp} (G : GrB p t A ks ls H h) : GrB p t A ks ls' H (h.put (A + 3) (some (.mp false (entB ls')))) :=
  ⟨G.nx, fun id hid => by rw [put_bl, if_neg (by omega)]; exact G.old id hid, by rw [put_bl, if_neg (by omega)]; exact G.b0, by rw [put_bl, if_neg (by omega)]; exact G.b1, by rw [put_bl, if_neg (by omega)]; exact G.b2, by rw [put_bl, if_pos rfl], by rw [put_bl, if_neg (by omega)]; exact G.b4⟩
theorem Low.iff {p : List (List Int)} {s : List Int} {x : Nat} : Low p s x ↔ (x : Int) ∈ s ∨ ∃ c, c < p.length ∧ (x : Int) ∈ nth p c ∧ Low p s c := by
  constructor
  · intro l
    cases l with
    | base h => exact .inl h
    | step hc h l => exact .inr ⟨_, hc, h, l⟩
  · rintro (h | ⟨c, hc, h, l⟩)
    · exact .base h
    · exact .step hc h l

theorem f58_shr (p t : List (List Int)) (N : Net p t) (s : List Int) (hsl : s.length ≤ maxLen) (H : Hp) : ∃ v h', Shr Try.prog cfg 58 [.agg [LLI p, LLI t, I p.length], LI s] H v h' ∧
    (H.nx + 5 = h'.nx ∧ (∀ id, id < H.nx → h'.bl id = H.bl id) ∧
      ((diffB p.length s = true ∧ v = .tup [.agg [LLI p, LLI t, I p.length, .mp (H.nx + 2), .mp (H.nx + 3)], .bool true] ∧ ∃ ls, h'.bl (H.nx + 2) = some (.mp false (entB s)) ∧ h'.bl (H.nx + 3) = some (.mp false (entB ls)) ∧ ∀ x : Nat, x < p.length → hasB ls x = lowB p s x) ∨
       (diffB p.length s = false ∧ v = .tup [.agg [.nil, .nil, I 0, .nilmp, .nilmp], .bool false]))) := by
  have ml : maxLen = 9223372036854775807 := by decide
  have hn1 := N.n1
  have a2 : H.nx + 1 + 1 = H.nx + 2 := rfl
  have a3 : H.nx + 2 + 1 = H.nx + 3 := rfl
  have a4 : H.nx + 3 + 1 = H.nx + 4 := rfl
  have a5 : H.nx + 4 + 1 = H.nx + 5 := rfl
  have n1 : ¬ H.nx = H.nx + 1 := by omega
  have n2 : ¬ H.nx = H.nx + 2 := by omega
  have n3 : ¬ H.nx = H.nx + 3 := by omega
  have n4 : ¬ H.nx = H.nx + 4 := by omega
  have hst : ∀ (h : Hp) (id a b : Nat), storeC h id 0 5 (some (.cells false false [.nil, .nil, I 0, .nilmp, .nilmp])) [LLI p, LLI t, I p.length, .mp a, .mp b] = some (.skp, h.put id (some (.cells false false [LLI p, LLI t, I p.length, .mp a, .mp b]))) := fun h id a b => by simp [storeC, setL, AV.isCell]
  have hst0 : ∀ (h : Hp) (id : Nat), storeC h id 0 5 (some (.cells false false [.nil, .nil, I 0, .nilmp, .nilmp])) [.nil, .nil, I 0, .nilmp, .nilmp] = some (.skp, h.put id (some (.cells false false [.nil, .nil, I 0, .nilmp, .nilmp]))) := fun h id => by simp [storeC, setL, AV.isCell]
  refine Shr_intro Try.func58 rfl ok58 (Nat.le_of_ble_eq_true rfl) ?_
  simp only [Try.f58, Option.getD_some, initSt2]
  simp (disch := first | (simp only [go_sem, Bool.and_self, eq_self]; done) | omega | (simp only [List.length_cons, List.length_nil]; omega)) only [go_sem, ↓reduceIte, Nat.reduceEqDiff, Nat.reduceAdd, Nat.reduceMul, Nat.reduceSub, Int.reduceToNat, Nat.reduceBEq, List.size_toArray, List.length_cons, List.length_nil, Bool.false_and, Bool.true_and, Bool.or_false, Bool.false_or, Bool.and_false, Bool.and_true, n1, n2, n3, n4, a2, a3, a4, a5, hst]
  refine WP_cut (fun st h => st 2 = .ptr H.nx 0 ∧ st 4 = .ptr (H.nx + 1) 0 ∧ st 5 = .bool false ∧ st 6 = .ptr (H.nx + 4) 0 ∧ GrB p t H.nx s [] H h ∧ diffB p.length s = true) ?_ ?_
  · refine WP_for 18 s.length (fun i st h => st 2 = .ptr H.nx 0 ∧ st 4 = .ptr (H.nx + 1) 0 ∧ st 5 = .bool false ∧ st 6 = .ptr (H.nx + 4) 0 ∧ st 16 = LI s ∧ st 17 = I s.length ∧ GrB p t H.nx (s.take i) [] H h ∧ ∀ j, j < i → diffE p.length s j = true) (by simp (disch := first | (simp only [go_sem, Bool.and_self, eq_self]; done) | omega | (simp only [List.length_cons, List.length_nil]; omega)) only [go_sem, ↓reduceIte, Nat.reduceEqDiff, Nat.reduceAdd, Nat.reduceMul, Nat.reduceSub, Int.reduceToNat, Nat.reduceBEq, List.size_toArray, List.length_cons, List.length_nil, Bool.false_and, Bool.true_and, Bool.or_false, Bool.false_or, Bool.and_false, Bool.and_true]) ⟨by simp (disch := first | (simp only [go_sem, Bool.and_self, eq_self]; done) | omega | (simp only [List.length_cons, List.length_nil]; omega)) only [go_sem, ↓reduceIte, Nat.reduceEqDiff, Nat.reduceAdd, Nat.reduceMul, Nat.reduceSub, Int.reduceToNat, Nat.reduceBEq, List.size_toArray, List.length_cons, List.length_nil, Bool.false_and, Bool.true_and, Bool.or_false, Bool.false_or, Bool.and_false, Bool.and_true], by simp (disch := first | (simp only [go_sem, Bool.and_self, eq_self]; done) | omega | (simp only [List.length_cons, List.length_nil]; omega)) only [go_sem, ↓reduceIte, Nat.reduceEqDiff, Nat.reduceAdd, Nat.reduceMul, Nat.reduceSub, Int.reduceToNat, Nat.reduceBEq, List.size_toArray, List.length_cons, List.length_nil, Bool.false_and, Bool.true_and, Bool.or_false, Bool.false_or, Bool.and_false, Bool.and_true], by simp (disch := first | (simp only [go_sem, Bool.and_self, eq_self]; done) | omega | (simp only [List.length_cons, List.length_nil]; omega)) only [go_sem, ↓reduceIte, Nat.reduceEqDiff, Nat.reduceAdd, Nat.reduceMul, Nat.reduceSub, Int.reduceToNat, Nat.reduceBEq, List.size_toArray, List.length_cons, List.length_nil, Bool.false_and, Bool.true_and, Bool.or_false, Bool.false_or, Bool.and_false, Bool.and_true], by simp (disch := first | (simp only [go_sem, Bool.and_self, eq_self]; done) | omega | (simp only [List.length_cons, List.length_nil]; omega)) only [go_sem, ↓reduceIte, Nat.reduceEqDiff, Nat.reduceAdd, Nat.reduceMul, Nat.reduceSub, Int.reduceToNat, Nat.reduceBEq, List.size_toArray, List.length_cons, List.length_nil, Bool.false_and, Bool.true_and, Bool.or_false, Bool.false_or, Bool.and_false, Bool.and_true], by simp (disch := first | (simp only [go_sem, Bool.and_self, eq_self]; done) | omega | (simp only [List.length_cons, List.length_nil]; omega)) only [go_sem, ↓reduceIte, Nat.reduceEqDiff, Nat.reduceAdd, Nat.reduceMul, Nat.reduceSub, Int.reduceToNat, Nat.reduceBEq, List.size_toArray, List.length_cons, List.length_nil, Bool.false_and, Bool.true_and, Bool.or_false, Bool.false_or, Bool.and_false, Bool.and_true], by simp (disch := first | (simp only [go_sem, Bool.and_self, eq_self]; done) | omega | (simp only [List.length_cons, List.length_nil]; omega)) only [go_sem, ↓reduceIte, Nat.reduceEqDiff, Nat.reduceAdd, Nat.reduceMul, Nat.reduceSub, Int.reduceToNat, Nat.reduceBEq, List.size_toArray, List.length_cons, List.length_nil, Bool.false_and, Bool.true_and, Bool.or_false, Bool.false_or, Bool.and_false, Bool.and_true], ⟨?_, ?_, ?_, ?_, ?_, ?_, ?_⟩, by omega⟩ ?_
    · simp (disch := first | (simp only [go_sem, Bool.and_self, eq_self]; done) | omega | (simp only [List.length_cons, List.length_nil]; omega)) only [go_sem, ↓reduceIte, Nat.reduceEqDiff, Nat.reduceAdd, Nat.reduceMul, Nat.reduceSub, Int.reduceToNat, Nat.reduceBEq, List.size_toArray, List.length_cons, List.length_nil, Bool.false_and, Bool.true_and, Bool.or_false, Bool.false_or, Bool.and_false, Bool.and_true, a2, a3, a4, a5]
    · intro id hid; simp (disch := first | (simp only [go_sem, Bool.and_self, eq_self]; done) | omega | (simp only [List.length_cons, List.length_nil]; omega)) only [go_sem, ↓reduceIte, Nat.reduceEqDiff, Nat.reduceAdd, Nat.reduceMul, Nat.reduceSub, Int.reduceToNat, Nat.reduceBEq, List.size_toArray, List.length_cons, List.length_nil, Bool.false_and, Bool.true_and, Bool.or_false, Bool.false_or, Bool.and_false, Bool.and_true, a2, a3, a4, a5]; simp [show id ≠ H.nx by omega, show id ≠ H.nx + 1 by omega, show id ≠ H.nx + 2 by omega, show id ≠ H.nx + 3 by omega, show id ≠ H.nx + 4 by omega]
    · simp (disch := first | (simp only [go_sem, Bool.and_self, eq_self]; done) | omega | (simp only [List.length_cons, List.length_nil]; omega)) only [go_sem, ↓reduceIte, Nat.reduceEqDiff, Nat.reduceAdd, Nat.reduceMul, Nat.reduceSub, Int.reduceToNat, Nat.reduceBEq, List.size_toArray, List.length_cons, List.length_nil, Bool.false_and, Bool.true_and, Bool.or_false, Bool.false_or, Bool.and_false, Bool.and_true, a2, a3, a4, a5]; simp
    · simp (disch := first | (simp only [go_sem, Bool.and_self, eq_self]; done) | omega | (simp only [List.length_cons, List.length_nil]; omega)) only [go_sem, ↓reduceIte, Nat.reduceEqDiff, Nat.reduceAdd, Nat.reduceMul, Nat.reduceSub, Int.reduceToNat, Nat.reduceBEq, List.size_toArray, List.length_cons, List.length_nil, Bool.false_and, Bool.true_and, Bool.or_false, Bool.false_or, Bool.and_false, Bool.and_true, a2, a3, a4, a5]; simp
    · simp (disch := first | (simp only [go_sem, Bool.and_self, eq_self]; done) | omega | (simp only [List.length_cons, List.length_nil]; omega)) only [go_sem, ↓reduceIte, Nat.reduceEqDiff, Nat.reduceAdd, Nat.reduceMul, Nat.reduceSub, Int.reduceToNat, Nat.reduceBEq, List.size_toArray, List.length_cons, List.length_nil, Bool.false_and, Bool.true_and, Bool.or_false, Bool.false_or, Bool.and_false, Bool.and_true, a2, a3, a4, a5]; simp; rfl
    · simp (disch := first | (simp only [go_sem, Bool.and_self, eq_self]; done) | omega | (simp only [List.length_cons, List.length_nil]; omega)) only [go_sem, ↓reduceIte, Nat.reduceEqDiff, Nat.reduceAdd, Nat.reduceMul, Nat.reduceSub, Int.reduceToNat, Nat.reduceBEq, List.size_toArray, List.length_cons, List.length_nil, Bool.false_and, Bool.true_and, Bool.or_false, Bool.false_or, Bool.and_false, Bool.and_true, a2, a3, a4, a5]; simp; rfl
    · simp (disch := first | (simp only [go_sem, Bool.and_self, eq_self]; done) | omega | (simp only [List.length_cons, List.length_nil]; omega)) only [go_sem, ↓reduceIte, Nat.reduceEqDiff, Nat.reduceAdd, Nat.reduceMul, Nat.reduceSub, Int.reduceToNat, Nat.reduceBEq, List.size_toArray, List.length_cons, List.length_nil, Bool.false_and, Bool.true_and, Bool.or_false, Bool.false_or, Bool.and_false, Bool.and_true, a2, a3, a4, a5]
    rintro i st h hi s18 ⟨s2, s4, s5, s6, s16, s17, G, hg⟩
    by_cases hlt : i < s.length
    case neg =>
      have hii : i = s.length := by omega
      have hr : diffB p.length s = true := all_range fun j hj => hg j (by omega)
      have hts : s.take i = s := by rw [hii]; exact List.take_length
      rw [hts] at G
      simp (disch := first | (simp only [go_sem, Bool.and_self, eq_self]; done) | omega | (simp only [List.length_cons, List.length_nil]; omega)) only [go_sem, ↓reduceIte, Nat.reduceEqDiff, Nat.reduceAdd, Nat.reduceMul, Nat.reduceSub, Int.reduceToNat, Nat.reduceBEq, List.size_toArray, List.length_cons, List.length_nil, Bool.false_and, Bool.true_and, Bool.or_false, Bool.false_or, Bool.and_false, Bool.and_true, s2, s4, s5, s6, s16, s17, s18, hlt]
      exact ⟨G, hr⟩
    have bad : diffE p.length s i = false → diffB p.length s = false := fun h => not_all_range hlt h
    have b0 := G.b0
    have b1 := G.b1
    have b2 := G.b2
    have b4 := G.b4
    have hnx := G.nx
    have hlk := look_B (H.nx + 2) false (s.take i) (nth s i)
    cases h1 : inB (nth s i) 0 (p.length - 1) with
    | false =>
      have q := bad (by rw [diffE_inB, h1]; rfl)
      simp (disch := first | (simp only [go_sem, Bool.and_self, eq_self]; done) | omega | (simp only [List.length_cons, List.length_nil]; omega)) only [go_sem, ↓reduceIte, Nat.reduceEqDiff, Nat.reduceAdd, Nat.reduceMul, Nat.reduceSub, Int.reduceToNat, Nat.reduceBEq, List.size_toArray, List.length_cons, List.length_nil, Bool.false_and, Bool.true_and, Bool.or_false, Bool.false_or, Bool.and_false, Bool.and_true, s2, s4, s5, s6, s16, s17, s18, hlt, b0, b1, h1, hst0]
      exact ⟨by rw [hnx], fun id hid => by rw [if_neg (by omega)]; exact G.old id hid, .inr q⟩
    | true =>
    cases h3 : hasB (s.take i) (nth s i) with
    | true =>
      have q := bad (by rw [diffE_inB, h1, h3]; rfl)
      rw [h3] at hlk
      simp (disch := first | (simp only [go_sem, Bool.and_self, eq_self]; done) | omega | (simp only [List.length_cons, List.length_nil]; omega)) only [go_sem, ↓reduceIte, Nat.reduceEqDiff, Nat.reduceAdd, Nat.reduceMul, Nat.reduceSub, Int.reduceToNat, Nat.reduceBEq, List.size_toArray, List.length_cons, List.length_nil, Bool.false_and, Bool.true_and, Bool.or_false, Bool.false_or, Bool.and_false, Bool.and_true, s2, s4, s5, s6, s16, s17, s18, hlt, b0, b1, b2, b4, h1, hlk, hst0]
      exact ⟨by rw [hnx], fun id hid => by rw [if_neg (by omega)]; exact G.old id hid, .inr q⟩
    | false =>
    have q : diffE p.length s i = true := by rw [diffE_inB, h1, h3]; rfl
    rw [h3] at hlk
    have hpk : putK (nth s i) (.bool true) (entB (s.take i)) = entB (s.take (i + 1)) := by
      rw [putK_B, if_neg (by simpa [hasB] using h3), List.take_add_one, nth_get hlt]; rfl
    simp (disch := first | (simp only [go_sem, Bool.and_self, eq_self]; done) | omega | (simp only [List.length_cons, List.length_nil]; omega)) only [go_sem, ↓reduceIte, Nat.reduceEqDiff, Nat.reduceAdd, Nat.reduceMul, Nat.reduceSub, Int.reduceToNat, Nat.reduceBEq, List.size_toArray, List.length_cons, List.length_nil, Bool.false_and, Bool.true_and, Bool.or_false, Bool.false_or, Bool.and_false, Bool.and_true, s2, s4, s5, s6, s16, s17, s18, hlt, b0, b2, b4, h1, hlk, hpk]
    rw [ForK_normal]
    exact ⟨hlt, by simp (disch := first | (simp only [go_sem, Bool.and_self, eq_self]; done) | omega | (simp only [List.length_cons, List.length_nil]; omega)) only [go_sem, ↓reduceIte, Nat.reduceEqDiff, Nat.reduceAdd, Nat.reduceMul, Nat.reduceSub, Int.reduceToNat, Nat.reduceBEq, List.size_toArray, List.length_cons, List.length_nil, Bool.false_and, Bool.true_and, Bool.or_false, Bool.false_or, Bool.and_false, Bool.and_true, s18], by simp (disch := first | (simp only [go_sem, Bool.and_self, eq_self]; done) | omega | (simp only [List.length_cons, List.length_nil]; omega)) only [go_sem, ↓reduceIte, Nat.reduceEqDiff, Nat.reduceAdd, Nat.reduceMul, Nat.reduceSub, Int.reduceToNat, Nat.reduceBEq, List.size_toArray, List.length_cons, List.length_nil, Bool.false_and, Bool.true_and, Bool.or_false, Bool.false_or, Bool.and_false, Bool.and_true, s2], by simp (disch := first | (simp only [go_sem, Bool.and_self, eq_self]; done) | omega | (simp only [List.length_cons, List.length_nil]; omega)) only [go_sem, ↓reduceIte, Nat.reduceEqDiff, Nat.reduceAdd, Nat.reduceMul, Nat.reduceSub, Int.reduceToNat, Nat.reduceBEq, List.size_toArray, List.length_cons, List.length_nil, Bool.false_and, Bool.true_and, Bool.or_false, Bool.false_or, Bool.and_false, Bool.and_true, s4], by simp (disch := first | (simp only [go_sem, Bool.and_self, eq_self]; done) | omega | (simp only [List.length_cons, List.length_nil]; omega)) only [go_sem, ↓reduceIte, Nat.reduceEqDiff, Nat.reduceAdd, Nat.reduceMul, Nat.reduceSub, Int.reduceToNat, Nat.reduceBEq, List.size_toArray, List.length_cons, List.length_nil, Bool.false_and, Bool.true_and, Bool.or_false, Bool.false_or, Bool.and_false, Bool.and_true, s5], by simp (disch := first | (simp only [go_sem, Bool.and_self, eq_self]; done) | omega | (simp only [List.length_cons, List.length_nil]; omega)) only [go_sem, ↓reduceIte, Nat.reduceEqDiff, Nat.reduceAdd, Nat.reduceMul, Nat.reduceSub, Int.reduceToNat, Nat.reduceBEq, List.size_toArray, List.length_cons, List.length_nil, Bool.false_and, Bool.true_and, Bool.or_false, Bool.false_or, Bool.and_false, Bool.and_true, s6], by simp (disch := first | (simp only [go_sem, Bool.and_self, eq_self]; done) | omega | (simp only [List.length_cons, List.length_nil]; omega)) only [go_sem, ↓reduceIte, Nat.reduceEqDiff, Nat.reduceAdd, Nat.reduceMul, Nat.reduceSub, Int.reduceToNat, Nat.reduceBEq, List.size_toArray, List.length_cons, List.length_nil, Bool.false_and, Bool.true_and, Bool.or_false, Bool.false_or, Bool.and_false, Bool.and_true, s16], by simp (disch := first | (simp only [go_sem, Bool.and_self, eq_self]; done) | omega | (simp only [List.length_cons, List.length_nil]; omega)) only [go_sem, ↓reduceIte, Nat.reduceEqDiff, Nat.reduceAdd, Nat.reduceMul, Nat.reduceSub, Int.reduceToNat, Nat.reduceBEq, List.size_toArray, List.length_cons, List.length_nil, Bool.false_and, Bool.true_and, Bool.or_false, Bool.false_or, Bool.and_false, Bool.and_true, s17], G.put2, fun j hj => by
      rcases Nat.lt_or_ge j i with h | h
      · exact hg j h
      · rw [show j = i by omega]; exact q⟩
  rintro st h ⟨s2, s4, s5, s6, G, hd⟩
  have b0 := G.b0
  simp (disch := first | (simp only [go_sem, Bool.and_self, eq_self]; done) | omega | (simp only [List.length_cons, List.length_nil]; omega)) only [go_sem, ↓reduceIte, Nat.reduceEqDiff, Nat.reduceAdd, Nat.reduceMul, Nat.reduceSub, Int.reduceToNat, Nat.reduceBEq, List.size_toArray, List.length_cons, List.length_nil, Bool.false_and, Bool.true_and, Bool.or_false, Bool.false_or, Bool.and_false, Bool.and_true, s2, s4, s5, s6, b0]
  refine WP_cut (fun st h => st 2 = .ptr H.nx 0 ∧ st 4 = .ptr (H.nx + 1) 0 ∧ st 5 = .bool false ∧ st 6 = .ptr (H.nx + 4) 0 ∧ ∃ ls, GrB p t H.nx s ls H h ∧ ∀ x : Nat, x < p.length → hasB ls x = lowB p s x) ?_ ?_
  · refine WP_down 9 p.length (fun m st h => st 2 = .ptr H.nx 0 ∧ st 4 = .ptr (H.nx + 1) 0 ∧ st 5 = .bool false ∧ st 6 = .ptr (H.nx + 4) 0 ∧ ∃ ls, GrB p t H.nx s ls H h ∧ ∀ x : Nat, x < p.length → (hasB ls x = true ↔ ((m ≤ x ∧ Low p s x) ∨ ∃ c, m ≤ c ∧ c < p.length ∧ (x : Int) ∈ nth p c ∧ Low p s c))) (by simp (disch := first | (simp only [go_sem, Bool.and_self, eq_self]; done) | omega | (simp only [List.length_cons, List.length_nil]; omega)) only [go_sem, ↓reduceIte, Nat.reduceEqDiff, Nat.reduceAdd, Nat.reduceMul, Nat.reduceSub, Int.reduceToNat, Nat.reduceBEq, List.size_toArray, List.length_cons, List.length_nil, Bool.false_and, Bool.true_and, Bool.or_false, Bool.false_or, Bool.and_false, Bool.and_true]) ⟨by simp (disch := first | (simp only [go_sem, Bool.and_self, eq_self]; done) | omega | (simp only [List.length_cons, List.length_nil]; omega)) only [go_sem, ↓reduceIte, Nat.reduceEqDiff, Nat.reduceAdd, Nat.reduceMul, Nat.reduceSub, Int.reduceToNat, Nat.reduceBEq, List.size_toArray, List.length_cons, List.length_nil, Bool.false_and, Bool.true_and, Bool.or_false, Bool.false_or, Bool.and_false, Bool.and_true, s2, s4, s5, s6], by simp (disch := first | (simp only [go_sem, Bool.and_self, eq_self]; done) | omega | (simp only [List.length_cons, List.length_nil]; omega)) only [go_sem, ↓reduceIte, Nat.reduceEqDiff, Nat.reduceAdd, Nat.reduceMul, Nat.reduceSub, Int.reduceToNat, Nat.reduceBEq, List.size_toArray, List.length_cons, List.length_nil, Bool.false_and, Bool.true_and, Bool.or_false, Bool.false_or, Bool.and_false, Bool.and_true, s2, s4, s5, s6], by simp (disch := first | (simp only [go_sem, Bool.and_self, eq_self]; done) | omega | (simp only [List.length_cons, List.length_nil]; omega)) only [go_sem, ↓reduceIte, Nat.reduceEqDiff, Nat.reduceAdd, Nat.reduceMul, Nat.reduceSub, Int.reduceToNat, Nat.reduceBEq, List.size_toArray, List.length_cons, List.length_nil, Bool.false_and, Bool.true_and, Bool.or_false, Bool.false_or, Bool.and_false, Bool.and_true, s2, s4, s5, s6], by simp (disch := first | (simp only [go_sem, Bool.and_self, eq_self]; done) | omega | (simp only [List.length_cons, List.length_nil]; omega)) only [go_sem, ↓reduceIte, Nat.reduceEqDiff, Nat.reduceAdd, Nat.reduceMul, Nat.reduceSub, Int.reduceToNat, Nat.reduceBEq, List.size_toArray, List.length_cons, List.length_nil, Bool.false_and, Bool.true_and, Bool.or_false, Bool.false_or, Bool.and_false, Bool.and_true, s2, s4, s5, s6], [], G, fun x hx => ⟨fun h => (by cases h), fun h => (by
      rcases h with ⟨h, _⟩ | ⟨c, h1, h2, _⟩ <;> omega)⟩⟩ ?_
    rintro m st h hm s9 ⟨s2, s4, s5, s6, ls, G, hls⟩
    cases m with
    | zero =>
      have hneg : ¬ (0 : Int) ≤ ((0 : Nat) : Int) - 1 := by decide
      simp (disch := first | (simp only [go_sem, Bool.and_self, eq_self]; done) | omega | (simp only [List.length_cons, List.length_nil]; omega)) only [go_sem, ↓reduceIte, Nat.reduceEqDiff, Nat.reduceAdd, Nat.reduceMul, Nat.reduceSub, Int.reduceToNat, Nat.reduceBEq, List.size_toArray, List.length_cons, List.length_nil, Bool.false_and, Bool.true_and, Bool.or_false, Bool.false_or, Bool.and_false, Bool.and_true, s2, s4, s5, s6, s9, hneg]
      refine ⟨ls, G, fun x hx => ?_⟩
      rw [Bool.eq_iff_iff, hls x hx, lowB_iff]
      constructor
      · rintro (⟨_, h⟩ | ⟨c, _, h2, h3, h4⟩)
        · exact h
        · exact .step h2 h3 h4
      · exact fun h => .inl ⟨Nat.zero_le _, h⟩
    | succ i =>
    have s9 : st 9 = I i := by rw [s9]; congr 1; omega
    have hi0 : (0 : Int) ≤ i := by omega
    have hin : i < p.length := by omega
    have b0 := G.b0
    have b2 := G.b2
    have b3 := G.b3
    have b4 := G.b4
    have hlk1 := look_B (H.nx + 2) false s i
    have hlk2 := look_B (H.nx + 3) false ls i
    have hlow : lowB p s i = (hasB s i || hasB ls i) := by
      rw [Bool.eq_iff_iff, Bool.or_eq_true, lowB_iff, hls i hin, Low.iff]
      constructor
      · rintro (h | ⟨c, h1, h2, h3⟩)
        · exact .inl (by simpa [hasB] using h)
        · have := mem_par N h1 h2
          exact .inr (.inr ⟨c, by omega, h1, h2, h3⟩)
      · rintro (h | ⟨h, _⟩ | ⟨c, _, h2, h3, h4⟩)
        · exact .inl (by simpa [hasB] using h)
        · omega
        · exact .inr ⟨c, h2, h3, h4⟩
    cases hl : lowB p s i with
    | false =>
      rw [hl] at hlow
      have e1 : hasB s i = false := by
        cases h : hasB s i with
        | false => rfl
        | true => rw [h] at hlow; cases hlow
      have e2 : hasB ls i = false := by
        cases h : hasB ls i with
        | false => rfl
        | true => rw [h, Bool.or_true] at hlow; cases hlow
      rw [e1] at hlk1
      rw [e2] at hlk2
      simp (disch := first | (simp only [go_sem, Bool.and_self, eq_self]; done) | omega | (simp only [List.length_cons, List.length_nil]; omega)) only [go_sem, ↓reduceIte, Nat.reduceEqDiff, Nat.reduceAdd, Nat.reduceMul, Nat.reduceSub, Int.reduceToNat, Nat.reduceBEq, List.size_toArray, List.length_cons, List.length_nil, Bool.false_and, Bool.true_and, Bool.or_false, Bool.false_or, Bool.and_false, Bool.and_true, s2, s4, s5, s6, s9, hi0, b2, b3, b4, hlk1, hlk2]
      rw [DownK_normal]
      refine ⟨by omega, by simp (disch := first | (simp only [go_sem, Bool.and_self, eq_self]; done) | omega | (simp only [List.length_cons, List.length_nil]; omega)) only [go_sem, ↓reduceIte, Nat.reduceEqDiff, Nat.reduceAdd, Nat.reduceMul, Nat.reduceSub, Int.reduceToNat, Nat.reduceBEq, List.size_toArray, List.length_cons, List.length_nil, Bool.false_and, Bool.true_and, Bool.or_false, Bool.false_or, Bool.and_false, Bool.and_true, s9]; congr 1; omega, by simp (disch := first | (simp only [go_sem, Bool.and_self, eq_self]; done) | omega | (simp only [List.length_cons, List.length_nil]; omega)) only [go_sem, ↓reduceIte, Nat.reduceEqDiff, Nat.reduceAdd, Nat.reduceMul, Nat.reduceSub, Int.reduceToNat, Nat.reduceBEq, List.size_toArray, List.length_cons, List.length_nil, Bool.false_and, Bool.true_and, Bool.or_false, Bool.false_or, Bool.and_false, Bool.and_true, s2], by simp (disch := first | (simp only [go_sem, Bool.and_self, eq_self]; done) | omega | (simp only [List.length_cons, List.length_nil]; omega)) only [go_sem, ↓reduceIte, Nat.reduceEqDiff, Nat.reduceAdd, Nat.reduceMul, Nat.reduceSub, Int.reduceToNat, Nat.reduceBEq, List.size_toArray, List.length_cons, List.length_nil, Bool.false_and, Bool.true_and, Bool.or_false, Bool.false_or, Bool.and_false, Bool.and_true, s4], by simp (disch := first | (simp only [go_sem, Bool.and_self, eq_self]; done) | omega | (simp only [List.length_cons, List.length_nil]; omega)) only [go_sem, ↓reduceIte, Nat.reduceEqDiff, Nat.reduceAdd, Nat.reduceMul, Nat.reduceSub, Int.reduceToNat, Nat.reduceBEq, List.size_toArray, List.length_cons, List.length_nil, Bool.false_and, Bool.true_and, Bool.or_false, Bool.false_or, Bool.and_false, Bool.and_true, s5], by simp (disch := first | (simp only [go_sem, Bool.and_self, eq_self]; done) | omega | (simp only [List.length_cons, List.length_nil]; omega)) only [go_sem, ↓reduceIte, Nat.reduceEqDiff, Nat.reduceAdd, Nat.reduceMul, Nat.reduceSub, Int.reduceToNat, Nat.reduceBEq, List.size_toArray, List.length_cons, List.length_nil, Bool.false_and, Bool.true_and, Bool.or_false, Bool.false_or, Bool.and_false, Bool.and_true, s6], ls, G, fun x hx => ?_⟩
      have hnl : ¬ Low p s i := fun h => by rw [lowB_iff.2 h] at hl; cases hl
      rw [hls x hx]
      simp only [Nat.add_sub_cancel]
      constructor
      · rintro (⟨h1, h2⟩ | ⟨c, h1, h2⟩)
        · exact .inl ⟨by omega, h2⟩
        · exact .inr ⟨c, by omega, h2⟩
      · rintro (⟨h1, h2⟩ | ⟨c, h1, h2, h3, h4⟩)
        · rcases Nat.lt_or_ge i x with h | h
          · exact .inl ⟨h, h2⟩
          · have : x = i := by omega
            subst this; exact absurd h2 hnl
        · rcases Nat.lt_or_ge i c with h | h
          · exact .inr ⟨c, h, h2, h3, h4⟩
          · have : c = i := by omega
            subst this; exact absurd h4 hnl
    | true =>
      have hli := lowB_iff.1 hl
      have hpk := putK_B ls i
      have G1 : GrB p t H.nx s (insK ls i) H (h.put (H.nx + 3) (some (.mp false (entB (insK ls i))))) := G.put3
      have hpk' : putK (i : Int) (.bool true) (entB ls) = entB (insK ls i) := hpk
      have hpl3 := N.pl i hin
      rw [hl] at hlow
      cases e1 : hasB s i with
      | true =>
        rw [e1] at hlk1
        simp (disch := first | (simp only [go_sem, Bool.and_self, eq_self]; done) | omega | (simp only [List.length_cons, List.length_nil]; omega)) only [go_sem, ↓reduceIte, Nat.reduceEqDiff, Nat.reduceAdd, Nat.reduceMul, Nat.reduceSub, Int.reduceToNat, Nat.reduceBEq, List.size_toArray, List.length_cons, List.length_nil, Bool.false_and, Bool.true_and, Bool.or_false, Bool.false_or, Bool.and_false, Bool.and_true, s2, s4, s5, s6, s9, hi0, b0, b2, b3, b4, hlk1, hpk', hin, n3]
        refine WP_cut (fun st h => st 2 = .ptr H.nx 0 ∧ st 4 = .ptr (H.nx + 1) 0 ∧ st 5 = .bool false ∧ st 6 = .ptr (H.nx + 4) 0 ∧ st 9 = I i ∧ ∃ ls', GrB p t H.nx s ls' H h ∧ ∀ k, k ∈ ls' ↔ k ∈ ls ∨ k = i ∨ k ∈ nth p i) ?_ ?_
        · refine WP_for 66 (nth p i).length (fun j st h => st 2 = .ptr H.nx 0 ∧ st 4 = .ptr (H.nx + 1) 0 ∧ st 5 = .bool false ∧ st 6 = .ptr (H.nx + 4) 0 ∧ st 9 = I i ∧ st 64 = LI (nth p i) ∧ st 65 = I (nth p i).length ∧ ∃ ls', GrB p t H.nx s ls' H h ∧ ∀ k, k ∈ ls' ↔ k ∈ ls ∨ k = i ∨ ∃ j', j' < j ∧ nth (nth p i) j' = k) (by simp (disch := first | (simp only [go_sem, Bool.and_self, eq_self]; done) | omega | (simp only [List.length_cons, List.length_nil]; omega)) only [go_sem, ↓reduceIte, Nat.reduceEqDiff, Nat.reduceAdd, Nat.reduceMul, Nat.reduceSub, Int.reduceToNat, Nat.reduceBEq, List.size_toArray, List.length_cons, List.length_nil, Bool.false_and, Bool.true_and, Bool.or_false, Bool.false_or, Bool.and_false, Bool.and_true]) ⟨by simp (disch := first | (simp only [go_sem, Bool.and_self, eq_self]; done) | omega | (simp only [List.length_cons, List.length_nil]; omega)) only [go_sem, ↓reduceIte, Nat.reduceEqDiff, Nat.reduceAdd, Nat.reduceMul, Nat.reduceSub, Int.reduceToNat, Nat.reduceBEq, List.size_toArray, List.length_cons, List.length_nil, Bool.false_and, Bool.true_and, Bool.or_false, Bool.false_or, Bool.and_false, Bool.and_true, s2, s4, s5, s6, s9], by simp (disch := first | (simp only [go_sem, Bool.and_self, eq_self]; done) | omega | (simp only [List.length_cons, List.length_nil]; omega)) only [go_sem, ↓reduceIte, Nat.reduceEqDiff, Nat.reduceAdd, Nat.reduceMul, Nat.reduceSub, Int.reduceToNat, Nat.reduceBEq, List.size_toArray, List.length_cons, List.length_nil, Bool.false_and, Bool.true_and, Bool.or_false, Bool.false_or, Bool.and_false, Bool.and_true, s2, s4, s5, s6, s9], by simp (disch := first | (simp only [go_sem, Bool.and_self, eq_self]; done) | omega | (simp only [List.length_cons, List.length_nil]; omega)) only [go_sem, ↓reduceIte, Nat.reduceEqDiff, Nat.reduceAdd, Nat.reduceMul, Nat.reduceSub, Int.reduceToNat, Nat.reduceBEq, List.size_toArray, List.length_cons, List.length_nil, Bool.false_and, Bool.true_and, Bool.or_false, Bool.false_or, Bool.and_false, Bool.and_true, s2, s4, s5, s6, s9], by simp (disch := first | (simp only [go_sem, Bool.and_self, eq_self]; done) | omega | (simp only [List.length_cons, List.length_nil]; omega)) only [go_sem, ↓reduceIte, Nat.reduceEqDiff, Nat.reduceAdd, Nat.reduceMul, Nat.reduceSub, Int.reduceToNat, Nat.reduceBEq, List.size_toArray, List.length_cons, List.length_nil, Bool.false_and, Bool.true_and, Bool.or_false, Bool.false_or, Bool.and_false, Bool.and_true, s2, s4, s5, s6, s9], by simp (disch := first | (simp only [go_sem, Bool.and_self, eq_self]; done) | omega | (simp only [List.length_cons, List.length_nil]; omega)) only [go_sem, ↓reduceIte, Nat.reduceEqDiff, Nat.reduceAdd, Nat.reduceMul, Nat.reduceSub, Int.reduceToNat, Nat.reduceBEq, List.size_toArray, List.length_cons, List.length_nil, Bool.false_and, Bool.true_and, Bool.or_false, Bool.false_or, Bool.and_false, Bool.and_true, s2, s4, s5, s6, s9], by simp (disch := first | (simp only [go_sem, Bool.and_self, eq_self]; done) | omega | (simp only [List.length_cons, List.length_nil]; omega)) only [go_sem, ↓reduceIte, Nat.reduceEqDiff, Nat.reduceAdd, Nat.reduceMul, Nat.reduceSub, Int.reduceToNat, Nat.reduceBEq, List.size_toArray, List.length_cons, List.length_nil, Bool.false_and, Bool.true_and, Bool.or_false, Bool.false_or, Bool.and_false, Bool.and_true, s2, s4, s5, s6, s9], by simp (disch := first | (simp only [go_sem, Bool.and_self, eq_self]; done) | omega | (simp only [List.length_cons, List.length_nil]; omega)) only [go_sem, ↓reduceIte, Nat.reduceEqDiff, Nat.reduceAdd, Nat.reduceMul, Nat.reduceSub, Int.reduceToNat, Nat.reduceBEq, List.size_toArray, List.length_cons, List.length_nil, Bool.false_and, Bool.true_and, Bool.or_false, Bool.false_or, Bool.and_false, Bool.and_true, s2, s4, s5, s6, s9], insK ls i, G1, fun k => by rw [mem_insK]; simp⟩ ?_
          rintro j st h hj s66 ⟨s2, s4, s5, s6, s9, s64, s65, ls', G', hls'⟩
          by_cases hjl : j < (nth p i).length
          case neg =>
            simp (disch := first | (simp only [go_sem, Bool.and_self, eq_self]; done) | omega | (simp only [List.length_cons, List.length_nil]; omega)) only [go_sem, ↓reduceIte, Nat.reduceEqDiff, Nat.reduceAdd, Nat.reduceMul, Nat.reduceSub, Int.reduceToNat, Nat.reduceBEq, List.size_toArray, List.length_cons, List.length_nil, Bool.false_and, Bool.true_and, Bool.or_false, Bool.false_or, Bool.and_false, Bool.and_true, s2, s4, s5, s6, s9, s64, s65, s66, hjl]
            refine ⟨ls', G', fun k => ?_⟩
            rw [hls' k]
            constructor
            · rintro (h | h | ⟨j', h1, rfl⟩)
              · exact .inl h
              · exact .inr (.inl h)
              · exact .inr (.inr (nth_mem (by omega)))
            · rintro (h | h | h)
              · exact .inl h
              · exact .inr (.inl h)
              · obtain ⟨j', hj', rfl⟩ := List.getElem_of_mem h
                exact .inr (.inr ⟨j', by omega, nth_getElem hj'⟩)
          have c3 := G'.b3
          have c4 := G'.b4
          have hpj : putK (nth (nth p i) j) (.bool true) (entB ls') = entB (insK ls' (nth (nth p i) j)) := putK_B _ _
          simp (disch := first | (simp only [go_sem, Bool.and_self, eq_self]; done) | omega | (simp only [List.length_cons, List.length_nil]; omega)) only [go_sem, ↓reduceIte, Nat.reduceEqDiff, Nat.reduceAdd, Nat.reduceMul, Nat.reduceSub, Int.reduceToNat, Nat.reduceBEq, List.size_toArray, List.length_cons, List.length_nil, Bool.false_and, Bool.true_and, Bool.or_false, Bool.false_or, Bool.and_false, Bool.and_true, s2, s4, s5, s6, s9, s64, s65, s66, hjl, c3, c4, hpj]
          rw [ForK_normal]
          refine ⟨hjl, by simp (disch := first | (simp only [go_sem, Bool.and_self, eq_self]; done) | omega | (simp only [List.length_cons, List.length_nil]; omega)) only [go_sem, ↓reduceIte, Nat.reduceEqDiff, Nat.reduceAdd, Nat.reduceMul, Nat.reduceSub, Int.reduceToNat, Nat.reduceBEq, List.size_toArray, List.length_cons, List.length_nil, Bool.false_and, Bool.true_and, Bool.or_false, Bool.false_or, Bool.and_false, Bool.and_true, s66], by simp (disch := first | (simp only [go_sem, Bool.and_self, eq_self]; done) | omega | (simp only [List.length_cons, List.length_nil]; omega)) only [go_sem, ↓reduceIte, Nat.reduceEqDiff, Nat.reduceAdd, Nat.reduceMul, Nat.reduceSub, Int.reduceToNat, Nat.reduceBEq, List.size_toArray, List.length_cons, List.length_nil, Bool.false_and, Bool.true_and, Bool.or_false, Bool.false_or, Bool.and_false, Bool.and_true, s2], by simp (disch := first | (simp only [go_sem, Bool.and_self, eq_self]; done) | omega | (simp only [List.length_cons, List.length_nil]; omega)) only [go_sem, ↓reduceIte, Nat.reduceEqDiff, Nat.reduceAdd, Nat.reduceMul, Nat.reduceSub, Int.reduceToNat, Nat.reduceBEq, List.size_toArray, List.length_cons, List.length_nil, Bool.false_and, Bool.true_and, Bool.or_false, Bool.false_or, Bool.and_false, Bool.and_true, s4], by simp (disch := first | (simp only [go_sem, Bool.and_self, eq_self]; done) | omega | (simp only [List.length_cons, List.length_nil]; omega)) only [go_sem, ↓reduceIte, Nat.reduceEqDiff, Nat.reduceAdd, Nat.reduceMul, Nat.reduceSub, Int.reduceToNat, Nat.reduceBEq, List.size_toArray, List.length_cons, List.length_nil, Bool.false_and, Bool.true_and, Bool.or_false, Bool.false_or, Bool.and_false, Bool.and_true, s5], by simp (disch := first | (simp only [go_sem, Bool.and_self, eq_self]; done) | omega | (simp only [List.length_cons, List.length_nil]; omega)) only [go_sem, ↓reduceIte, Nat.reduceEqDiff, Nat.reduceAdd, Nat.reduceMul, Nat.reduceSub, Int.reduceToNat, Nat.reduceBEq, List.size_toArray, List.length_cons, List.length_nil, Bool.false_and, Bool.true_and, Bool.or_false, Bool.false_or, Bool.and_false, Bool.and_true, s6], by simp (disch := first | (simp only [go_sem, Bool.and_self, eq_self]; done) | omega | (simp only [List.length_cons, List.length_nil]; omega)) only [go_sem, ↓reduceIte, Nat.reduceEqDiff, Nat.reduceAdd, Nat.reduceMul, Nat.reduceSub, Int.reduceToNat, Nat.reduceBEq, List.size_toArray, List.length_cons, List.length_nil, Bool.false_and, Bool.true_and, Bool.or_false, Bool.false_or, Bool.and_false, Bool.and_true, s9], by simp (disch := first | (simp only [go_sem, Bool.and_self, eq_self]; done) | omega | (simp only [List.length_cons, List.length_nil]; omega)) only [go_sem, ↓reduceIte, Nat.reduceEqDiff, Nat.reduceAdd, Nat.reduceMul, Nat.reduceSub, Int.reduceToNat, Nat.reduceBEq, List.size_toArray, List.length_cons, List.length_nil, Bool.false_and, Bool.true_and, Bool.or_false, Bool.false_or, Bool.and_false, Bool.and_true, s64], by simp (disch := first | (simp only [go_sem, Bool.and_self, eq_self]; done) | omega | (simp only [List.length_cons, List.length_nil]; omega)) only [go_sem, ↓reduceIte, Nat.reduceEqDiff, Nat.reduceAdd, Nat.reduceMul, Nat.reduceSub, Int.reduceToNat, Nat.reduceBEq, List.size_toArray, List.length_cons, List.length_nil, Bool.false_and, Bool.true_and, Bool.or_false, Bool.false_or, Bool.and_false, Bool.and_true, s65], insK ls' (nth (nth p i) j), G'.put3, fun k => ?_⟩
          rw [mem_insK, hls' k]
          constructor
          · rintro ((h | h | ⟨j', h1, h2⟩) | rfl)
            · exact .inl h
            · exact .inr (.inl h)
            · exact .inr (.inr ⟨j', by omega, h2⟩)
            · exact .inr (.inr ⟨j, by omega, rfl⟩)
          · rintro (h | h | ⟨j', h1, h2⟩)
            · exact .inl (.inl h)
            · exact .inl (.inr (.inl h))
            · rcases Nat.lt_or_ge j' j with h3 | h3
              · exact .inl (.inr (.inr ⟨j', h3, h2⟩))
              · exact .inr (by rw [← h2, show j' = j by omega])
        · rintro st h ⟨s2, s4, s5, s6, s9, ls', G', hls'⟩
          simp (disch := first | (simp only [go_sem, Bool.and_self, eq_self]; done) | omega | (simp only [List.length_cons, List.length_nil]; omega)) only [go_sem, ↓reduceIte, Nat.reduceEqDiff, Nat.reduceAdd, Nat.reduceMul, Nat.reduceSub, Int.reduceToNat, Nat.reduceBEq, List.size_toArray, List.length_cons, List.length_nil, Bool.false_and, Bool.true_and, Bool.or_false, Bool.false_or, Bool.and_false, Bool.and_true, s2, s4, s5, s6, s9]
          rw [DownK_normal]
          refine ⟨by omega, by simp (disch := first | (simp only [go_sem, Bool.and_self, eq_self]; done) | omega | (simp only [List.length_cons, List.length_nil]; omega)) only [go_sem, ↓reduceIte, Nat.reduceEqDiff, Nat.reduceAdd, Nat.reduceMul, Nat.reduceSub, Int.reduceToNat, Nat.reduceBEq, List.size_toArray, List.length_cons, List.length_nil, Bool.false_and, Bool.true_and, Bool.or_false, Bool.false_or, Bool.and_false, Bool.and_true, s9]; congr 1; omega, by simp (disch := first | (simp only [go_sem, Bool.and_self, eq_self]; done) | omega | (simp only [List.length_cons, List.length_nil]; omega)) only [go_sem, ↓reduceIte, Nat.reduceEqDiff, Nat.reduceAdd, Nat.reduceMul, Nat.reduceSub, Int.reduceToNat, Nat.reduceBEq, List.size_toArray, List.length_cons, List.length_nil, Bool.false_and, Bool.true_and, Bool.or_false, Bool.false_or, Bool.and_false, Bool.and_true, s2], by simp (disch := first | (simp only [go_sem, Bool.and_self, eq_self]; done) | omega | (simp only [List.length_cons, List.length_nil]; omega)) only [go_sem, ↓reduceIte, Nat.reduceEqDiff, Nat.reduceAdd, Nat.reduceMul, Nat.reduceSub, Int.reduceToNat, Nat.reduceBEq, List.size_toArray, List.length_cons, List.length_nil, Bool.false_and, Bool.true_and, Bool.or_false, Bool.false_or, Bool.and_false, Bool.and_true, s4], by simp (disch := first | (simp only [go_sem, Bool.and_self, eq_self]; done) | omega | (simp only [List.length_cons, List.length_nil]; omega)) only [go_sem, ↓reduceIte, Nat.reduceEqDiff, Nat.reduceAdd, Nat.reduceMul, Nat.reduceSub, Int.reduceToNat, Nat.reduceBEq, List.size_toArray, List.length_cons, List.length_nil, Bool.false_and, Bool.true_and, Bool.or_false, Bool.false_or, Bool.and_false, Bool.and_true, s5], by simp (disch := first | (simp only [go_sem, Bool.and_self, eq_self]; done) | omega | (simp only [List.length_cons, List.length_nil]; omega)) only [go_sem, ↓reduceIte, Nat.reduceEqDiff, Nat.reduceAdd, Nat.reduceMul, Nat.reduceSub, Int.reduceToNat, Nat.reduceBEq, List.size_toArray, List.length_cons, List.length_nil, Bool.false_and, Bool.true_and, Bool.or_false, Bool.false_or, Bool.and_false, Bool.and_true, s6], ls', G', fun x hx => ?_⟩
          have hm : hasB ls' x = true ↔ hasB ls x = true ∨ x = i ∨ (x : Int) ∈ nth p i := by
            simp only [hasB, decide_eq_true_eq]
            rw [hls' x, Int.ofNat_inj]
          rw [hm, hls x hx]
          simp only [Nat.add_sub_cancel]
          constructor
          · rintro ((⟨h1, h2⟩ | ⟨c, h1, h2⟩) | rfl | h)
            · exact .inl ⟨by omega, h2⟩
            · exact .inr ⟨c, by omega, h2⟩
            · exact .inl ⟨Nat.le_refl _, hli⟩
            · exact .inr ⟨i, Nat.le_refl _, hin, h, hli⟩
          · rintro (⟨h1, h2⟩ | ⟨c, h1, h2, h3, h4⟩)
            · rcases Nat.lt_or_ge i x with h | h
              · exact .inl (.inl ⟨h, h2⟩)
              · exact .inr (.inl (by omega))
            · rcases Nat.lt_or_ge i c with h | h
              · exact .inl (.inr ⟨c, h, h2, h3, h4⟩)
              · have : c = i := by omega
                subst this; exact .inr (.inr h3)
      | false =>
        have e2 : hasB ls i = true := by rw [e1, Bool.false_or] at hlow; exact hlow.symm
        rw [e1] at hlk1
        rw [e2] at hlk2
        simp (disch := first | (simp only [go_sem, Bool.and_self, eq_self]; done) | omega | (simp only [List.length_cons, List.length_nil]; omega)) only [go_sem, ↓reduceIte, Nat.reduceEqDiff, Nat.reduceAdd, Nat.reduceMul, Nat.reduceSub, Int.reduceToNat, Nat.reduceBEq, List.size_toArray, List.length_cons, List.length_nil, Bool.false_and, Bool.true_and, Bool.or_false, Bool.false_or, Bool.and_false, Bool.and_true, s2, s4, s5, s6, s9, hi0, b0, b2, b3, b4, hlk1, hlk2, hpk', hin, n3]
        refine WP_cut (fun st h => st 2 = .ptr H.nx 0 ∧ st 4 = .ptr (H.nx + 1) 0 ∧ st 5 = .bool false ∧ st 6 = .ptr (H.nx + 4) 0 ∧ st 9 = I i ∧ ∃ ls', GrB p t H.nx s ls' H h ∧ ∀ k, k ∈ ls' ↔ k ∈ ls ∨ k = i ∨ k ∈ nth p i) ?_ ?_
        · refine WP_for 66 (nth p i).length (fun j st h => st 2 = .ptr H.nx 0 ∧ st 4 = .ptr (H.nx + 1) 0 ∧ st 5 = .bool false ∧ st 6 = .ptr (H.nx + 4) 0 ∧ st 9 = I i ∧ st 64 = LI (nth p i) ∧ st 65 = I (nth p i).length ∧ ∃ ls', GrB p t H.nx s ls' H h ∧ ∀ k, k ∈ ls' ↔ k ∈ ls ∨ k = i ∨ ∃ j', j' < j ∧ nth (nth p i) j' = k) (by simp (disch := first | (simp only [go_sem, Bool.and_self, eq_self]; done) | omega | (simp only [List.length_cons, List.length_nil]; omega)) only [go_sem, ↓reduceIte, Nat.reduceEqDiff, Nat.reduceAdd, Nat.reduceMul, Nat.reduceSub, Int.reduceToNat, Nat.reduceBEq, List.size_toArray, List.length_cons, List.length_nil, Bool.false_and, Bool.true_and, Bool.or_false, Bool.false_or, Bool.and_false, Bool.and_true]) ⟨by simp (disch := first | (simp only [go_sem, Bool.and_self, eq_self]; done) | omega | (simp only [List.length_cons, List.length_nil]; omega)) only [go_sem, ↓reduceIte, Nat.reduceEqDiff, Nat.reduceAdd, Nat.reduceMul, Nat.reduceSub, Int.reduceToNat, Nat.reduceBEq, List.size_toArray, List.length_cons, List.length_nil, Bool.false_and, Bool.true_and, Bool.or_false, Bool.false_or, Bool.and_false, Bool.and_true, s2, s4, s5, s6, s9], by simp (disch := first | (simp only [go_sem, Bool.and_self, eq_self]; done) | omega | (simp only [List.length_cons, List.length_nil]; omega)) only [go_sem, ↓reduceIte, Nat.reduceEqDiff, Nat.reduceAdd, Nat.reduceMul, Nat.reduceSub, Int.reduceToNat, Nat.reduceBEq, List.size_toArray, List.length_cons, List.length_nil, Bool.false_and, Bool.true_and, Bool.or_false, Bool.false_or, Bool.and_false, Bool.and_true, s2, s4, s5, s6, s9], by simp (disch := first | (simp only [go_sem, Bool.and_self, eq_self]; done) | omega | (simp only [List.length_cons, List.length_nil]; omega)) only [go_sem, ↓reduceIte, Nat.reduceEqDiff, Nat.reduceAdd, Nat.reduceMul, Nat.reduceSub, Int.reduceToNat, Nat.reduceBEq, List.size_toArray, List.length_cons, List.length_nil, Bool.false_and, Bool.true_and, Bool.or_false, Bool.false_or, Bool.and_false, Bool.and_true, s2, s4, s5, s6, s9], by simp (disch := first | (simp only [go_sem, Bool.and_self, eq_self]; done) | omega | (simp only [List.length_cons, List.length_nil]; omega)) only [go_sem, ↓reduceIte, Nat.reduceEqDiff, Nat.reduceAdd, Nat.reduceMul, Nat.reduceSub, Int.reduceToNat, Nat.reduceBEq, List.size_toArray, List.length_cons, List.length_nil, Bool.false_and, Bool.true_and, Bool.or_false, Bool.false_or, Bool.and_false, Bool.and_true, s2, s4, s5, s6, s9], by simp (disch := first | (simp only [go_sem, Bool.and_self, eq_self]; done) | omega | (simp only [List.length_cons, List.length_nil]; omega)) only [go_sem, ↓reduceIte, Nat.reduceEqDiff, Nat.reduceAdd, Nat.reduceMul, Nat.reduceSub, Int.reduceToNat, Nat.reduceBEq, List.size_toArray, List.length_cons, List.length_nil, Bool.false_and, Bool.true_and, Bool.or_false, Bool.false_or, Bool.and_false, Bool.and_true, s2, s4, s5, s6, s9], by simp (disch := first | (simp only [go_sem, Bool.and_self, eq_self]; done) | omega | (simp only [List.length_cons, List.length_nil]; omega)) only [go_sem, ↓reduceIte, Nat.reduceEqDiff, Nat.reduceAdd, Nat.reduceMul, Nat.reduceSub, Int.reduceToNat, Nat.reduceBEq, List.size_toArray, List.length_cons, List.length_nil, Bool.false_and, Bool.true_and, Bool.or_false, Bool.false_or, Bool.and_false, Bool.and_true, s2, s4, s5, s6, s9], by simp (disch := first | (simp only [go_sem, Bool.and_self, eq_self]; done) | omega | (simp only [List.length_cons, List.length_nil]; omega)) only [go_sem, ↓reduceIte, Nat.reduceEqDiff, Nat.reduceAdd, Nat.reduceMul, Nat.reduceSub, Int.reduceToNat, Nat.reduceBEq, List.size_toArray, List.length_cons, List.length_nil, Bool.false_and, Bool.true_and, Bool.or_false, Bool.false_or, Bool.and_false, Bool.and_true, s2, s4, s5, s6, s9], insK ls i, G1, fun k => by rw [mem_insK]; simp⟩ ?_
          rintro j st h hj s66 ⟨s2, s4, s5, s6, s9, s64, s65, ls', G', hls'⟩
          by_cases hjl : j < (nth p i).length
          case neg =>
            simp (disch := first | (simp only [go_sem, Bool.and_self, eq_self]; done) | omega | (simp only [List.length_cons, List.length_nil]; omega)) only [go_sem, ↓reduceIte, Nat.reduceEqDiff, Nat.reduceAdd, Nat.reduceMul, Nat.reduceSub, Int.reduceToNat, Nat.reduceBEq, List.size_toArray, List.length_cons, List.length_nil, Bool.false_and, Bool.true_and, Bool.or_false, Bool.false_or, Bool.and_false, Bool.and_true, s2, s4, s5, s6, s9, s64, s65, s66, hjl]
            refine ⟨ls', G', fun k => ?_⟩
            rw [hls' k]
            constructor
            · rintro (h | h | ⟨j', h1, rfl⟩)
              · exact .inl h
              · exact .inr (.inl h)
              · exact .inr (.inr (nth_mem (by omega)))
            · rintro (h | h | h)
              · exact .inl h
              · exact .inr (.inl h)
              · obtain ⟨j', hj', rfl⟩ := List.getElem_of_mem h
                exact .inr (.inr ⟨j', by omega, nth_getElem hj'⟩)
          have c3 := G'.b3
          have c4 := G'.b4
          have hpj : putK (nth (nth p i) j) (.bool true) (entB ls') = entB (insK ls' (nth (nth p i) j)) := putK_B _ _
          simp (disch := first | (simp only [go_sem, Bool.and_self, eq_self]; done) | omega | (simp only [List.length_cons, List.length_nil]; omega)) only [go_sem, ↓reduceIte, Nat.reduceEqDiff, Nat.reduceAdd, Nat.reduceMul, Nat.reduceSub, Int.reduceToNat, Nat.reduceBEq, List.size_toArray, List.length_cons, List.length_nil, Bool.false_and, Bool.true_and, Bool.or_false, Bool.false_or, Bool.and_false, Bool.and_true, s2, s4, s5, s6, s9, s64, s65, s66, hjl, c3, c4, hpj]
          rw [ForK_normal]
          refine ⟨hjl, by simp (disch := first | (simp only [go_sem, Bool.and_self, eq_self]; done) | omega | (simp only [List.length_cons, List.length_nil]; omega)) only [go_sem, ↓reduceIte, Nat.reduceEqDiff, Nat.reduceAdd, Nat.reduceMul, Nat.reduceSub, Int.reduceToNat, Nat.reduceBEq, List.size_toArray, List.length_cons, List.length_nil, Bool.false_and, Bool.true_and, Bool.or_false, Bool.false_or, Bool.and_false, Bool.and_true, s66], by simp (disch := first | (simp only [go_sem, Bool.and_self, eq_self]; done) | omega | (simp only [List.length_cons, List.length_nil]; omega)) only [go_sem, ↓reduceIte, Nat.reduceEqDiff, Nat.reduceAdd, Nat.reduceMul, Nat.reduceSub, Int.reduceToNat, Nat.reduceBEq, List.size_toArray, List.length_cons, List.length_nil, Bool.false_and, Bool.true_and, Bool.or_false, Bool.false_or, Bool.and_false, Bool.and_true, s2], by simp (disch := first | (simp only [go_sem, Bool.and_self, eq_self]; done) | omega | (simp only [List.length_cons, List.length_nil]; omega)) only [go_sem, ↓reduceIte, Nat.reduceEqDiff, Nat.reduceAdd, Nat.reduceMul, Nat.reduceSub, Int.reduceToNat, Nat.reduceBEq, List.size_toArray, List.length_cons, List.length_nil, Bool.false_and, Bool.true_and, Bool.or_false, Bool.false_or, Bool.and_false, Bool.and_true, s4], by simp (disch := first | (simp only [go_sem, Bool.and_self, eq_self]; done) | omega | (simp only [List.length_cons, List.length_nil]; omega)) only [go_sem, ↓reduceIte, Nat.reduceEqDiff, Nat.reduceAdd, Nat.reduceMul, Nat.reduceSub, Int.reduceToNat, Nat.reduceBEq, List.size_toArray, List.length_cons, List.length_nil, Bool.false_and, Bool.true_and, Bool.or_false, Bool.false_or, Bool.and_false, Bool.and_true, s5], by simp (disch := first | (simp only [go_sem, Bool.and_self, eq_self]; done) | omega | (simp only [List.length_cons, List.length_nil]; omega)) only [go_sem, ↓reduceIte, Nat.reduceEqDiff, Nat.reduceAdd, Nat.reduceMul, Nat.reduceSub, Int.reduceToNat, Nat.reduceBEq, List.size_toArray, List.length_cons, List.length_nil, Bool.false_and, Bool.true_and, Bool.or_false, Bool.false_or, Bool.and_false, Bool.and_true, s6], by simp (disch := first | (simp only [go_sem, Bool.and_self, eq_self]; done) | omega | (simp only [List.length_cons, List.length_nil]; omega)) only [go_sem, ↓reduceIte, Nat.reduceEqDiff, Nat.reduceAdd, Nat.reduceMul, Nat.reduceSub, Int.reduceToNat, Nat.reduceBEq, List.size_toArray, List.length_cons, List.length_nil, Bool.false_and, Bool.true_and, Bool.or_false, Bool.false_or, Bool.and_false, Bool.and_true, s9], by simp (disch := first | (simp only [go_sem, Bool.and_self, eq_self]; done) | omega | (simp only [List.length_cons, List.length_nil]; omega)) only [go_sem, ↓reduceIte, Nat.reduceEqDiff, Nat.reduceAdd, Nat.reduceMul, Nat.reduceSub, Int.reduceToNat, Nat.reduceBEq, List.size_toArray, List.length_cons, List.length_nil, Bool.false_and, Bool.true_and, Bool.or_false, Bool.false_or, Bool.and_false, Bool.and_true, s64], by simp (disch := first | (simp only [go_sem, Bool.and_self, eq_self]; done) | omega | (simp only [List.length_cons, List.length_nil]; omega)) only [go_sem, ↓reduceIte, Nat.reduceEqDiff, Nat.reduceAdd, Nat.reduceMul, Nat.reduceSub, Int.reduceToNat, Nat.reduceBEq, List.size_toArray, List.length_cons, List.length_nil, Bool.false_and, Bool.true_and, Bool.or_false, Bool.false_or, Bool.and_false, Bool.and_true, s65], insK ls' (nth (nth p i) j), G'.put3, fun k => ?_⟩
          rw [mem_insK, hls' k]
          constructor
          · rintro ((h | h | ⟨j', h1, h2⟩) | rfl)
            · exact .inl h
            · exact .inr (.inl h)
            · exact .inr (.inr ⟨j', by omega, h2⟩)
            · exact .inr (.inr ⟨j, by omega, rfl⟩)
          · rintro (h | h | ⟨j', h1, h2⟩)
            · exact .inl (.inl h)
            · exact .inl (.inr (.inl h))
            · rcases Nat.lt_or_ge j' j with h3 | h3
              · exact .inl (.inr (.inr ⟨j', h3, h2⟩))
              · exact .inr (by rw [← h2, show j' = j by omega])
        · rintro st h ⟨s2, s4, s5, s6, s9, ls', G', hls'⟩
          simp (disch := first | (simp only [go_sem, Bool.and_self, eq_self]; done) | omega | (simp only [List.length_cons, List.length_nil]; omega)) only [go_sem, ↓reduceIte, Nat.reduceEqDiff, Nat.reduceAdd, Nat.reduceMul, Nat.reduceSub, Int.reduceToNat, Nat.reduceBEq, List.size_toArray, List.length_cons, List.length_nil, Bool.false_and, Bool.true_and, Bool.or_false, Bool.false_or, Bool.and_false, Bool.and_true, s2, s4, s5, s6, s9]
          rw [DownK_normal]
          refine ⟨by omega, by simp (disch := first | (simp only [go_sem, Bool.and_self, eq_self]; done) | omega | (simp only [List.length_cons, List.length_nil]; omega)) only [go_sem, ↓reduceIte, Nat.reduceEqDiff, Nat.reduceAdd, Nat.reduceMul, Nat.reduceSub, Int.reduceToNat, Nat.reduceBEq, List.size_toArray, List.length_cons, List.length_nil, Bool.false_and, Bool.true_and, Bool.or_false, Bool.false_or, Bool.and_false, Bool.and_true, s9]; congr 1; omega, by simp (disch := first | (simp only [go_sem, Bool.and_self, eq_self]; done) | omega | (simp only [List.length_cons, List.length_nil]; omega)) only [go_sem, ↓reduceIte, Nat.reduceEqDiff, Nat.reduceAdd, Nat.reduceMul, Nat.reduceSub, Int.reduceToNat, Nat.reduceBEq, List.size_toArray, List.length_cons, List.length_nil, Bool.false_and, Bool.true_and, Bool.or_false, Bool.false_or, Bool.and_false, Bool.and_true, s2], by simp (disch := first | (simp only [go_sem, Bool.and_self, eq_self]; done) | omega | (simp only [List.length_cons, List.length_nil]; omega)) only [go_sem, ↓reduceIte, Nat.reduceEqDiff, Nat.reduceAdd, Nat.reduceMul, Nat.reduceSub, Int.reduceToNat, Nat.reduceBEq, List.size_toArray, List.length_cons, List.length_nil, Bool.false_and, Bool.true_and, Bool.or_false, Bool.false_or, Bool.and_false, Bool.and_true, s4], by simp (disch := first | (simp only [go_sem, Bool.and_self, eq_self]; done) | omega | (simp only [List.length_cons, List.length_nil]; omega)) only [go_sem, ↓reduceIte, Nat.reduceEqDiff, Nat.reduceAdd, Nat.reduceMul, Nat.reduceSub, Int.reduceToNat, Nat.reduceBEq, List.size_toArray, List.length_cons, List.length_nil, Bool.false_and, Bool.true_and, Bool.or_false, Bool.false_or, Bool.and_false, Bool.and_true, s5], by simp (disch := first | (simp only [go_sem, Bool.and_self, eq_self]; done) | omega | (simp only [List.length_cons, List.length_nil]; omega)) only [go_sem, ↓reduceIte, Nat.reduceEqDiff, Nat.reduceAdd, Nat.reduceMul, Nat.reduceSub, Int.reduceToNat, Nat.reduceBEq, List.size_toArray, List.length_cons, List.length_nil, Bool.false_and, Bool.true_and, Bool.or_false, Bool.false_or, Bool.and_false, Bool.and_true, s6], ls', G', fun x hx => ?_⟩
          have hm : hasB ls' x = true ↔ hasB ls x = true ∨ x = i ∨ (x : Int) ∈ nth p i := by
            simp only [hasB, decide_eq_true_eq]
            rw [hls' x, Int.ofNat_inj]
          rw [hm, hls x hx]
          simp only [Nat.add_sub_cancel]
          constructor
          · rintro ((⟨h1, h2⟩ | ⟨c, h1, h2⟩) | rfl | h)
            · exact .inl ⟨by omega, h2⟩
            · exact .inr ⟨c, by omega, h2⟩
            · exact .inl ⟨Nat.le_refl _, hli⟩
            · exact .inr ⟨i, Nat.le_refl _, hin, h, hli⟩
          · rintro (⟨h1, h2⟩ | ⟨c, h1, h2, h3, h4⟩)
            · rcases Nat.lt_or_ge i x with h | h
              · exact .inl (.inl ⟨h, h2⟩)
              · exact .inr (.inl (by omega))
            · rcases Nat.lt_or_ge i c with h | h
              · exact .inl (.inr ⟨c, h, h2, h3, h4⟩)
              · have : c = i := by omega
                subst this; exact .inr (.inr h3)
  · rintro st h ⟨s2, s4, s5, s6, ls, G, hls⟩
    have b1 := G.b1
    have b2 := G.b2
    have b3 := G.b3
    have b4 := G.b4
    have hnx := G.nx
    simp (disch := first | (simp only [go_sem, Bool.and_self, eq_self]; done) | omega | (simp only [List.length_cons, List.length_nil]; omega)) only [go_sem, ↓reduceIte, Nat.reduceEqDiff, Nat.reduceAdd, Nat.reduceMul, Nat.reduceSub, Int.reduceToNat, Nat.reduceBEq, List.size_toArray, List.length_cons, List.length_nil, Bool.false_and, Bool.true_and, Bool.or_false, Bool.false_or, Bool.and_false, Bool.and_true, s2, s4, s5, s6, b1, b4, hst]
    exact ⟨by rw [hnx], fun id hid => by rw [if_neg (by omega)]; exact G.old id hid, .inl ⟨hd, ls, by rw [if_neg (by omega)]; exact b2, by rw [if_neg (by omega)]; exact b3, hls⟩⟩

end Go.Proofs.Ytpkakapbepkfdaa

set_option linter.unusedVariables false
set_option linter.unusedSimpArgs false
set_option maxRecDepth 10000
namespace Go.Proofs.Ytpkakapbepkfdaa
open Go Go.Am

variable {h h' : Hp} {K : AV → Hp → Prop}

abbrev mvB (ks : List Int) : AV := .mv ((entB ks).map (·.1)) ((entB ks).map (·.2))
theorem look_mv (ks : List Int) (b : Option Blk) (l : Bool) (n : Int) : lookB (some (.map 3 4)) (some (.int .i64)) (some (.bool false)) (mvB ks) b l (I n) false = some (.bool (hasB ks n)) := by
  rw [lookB_mv _ _ _ _ _ _ _ _ _ rfl, findK_B]
  by_cases h : n ∈ ks <;> simp [h, hasB]
theorem pure_entB (ks : List Int) : AV.pureL ((entB ks).map (·.2)) = true := by
  induction ks with
  | nil => rfl
  | cons k ks ih => simpa [entB, AV.pureL, AV.isPure] using ih
theorem seal_graph (p t : List (List Int)) (n : Int) (a b : Nat) (hab : a ≠ b) (ks ls : List Int) (h : Hp) (ha : h.bl a = some (.mp false (entB ks))) (hb : h.bl b = some (.mp false (entB ls))) :
    sealA h (.agg [LLI p, LLI t, I n, .mp a, .mp b]) = some (.agg [LLI p, LLI t, I n, mvB ks, mvB ls], (h.put a (some (.mp true (entB ks)))).put b (some (.mp true (entB ls)))) := by
  have s1 : ∀ (g : Hp) (q : List (List Int)), sealV g (LLI q) = some (LLI q, g) := fun g q => by
    have := sealA_L (h := g) (f := e1 LI) (sz := 1) q
    exact this
  have s2 : ∀ (g : Hp), sealV g (I n) = some (I n, g) := fun g => rfl
  have s3 : sealV h (.mp a) = some (mvB ks, h.put a (some (.mp true (entB ks)))) := by
    show sealV0 h (.mp a) = _
    simp only [sealV0, AV.isPure, ha, pure_entB]
    simp
  have s4 : sealV (h.put a (some (.mp true (entB ks)))) (.mp b) = some (mvB ls, (h.put a (some (.mp true (entB ks)))).put b (some (.mp true (entB ls)))) := by
    have hb' : (h.put a (some (.mp true (entB ks)))).bl b = some (.mp false (entB ls)) := by rw [put_bl, if_neg (Ne.symm hab)]; exact hb
    show sealV0 _ (.mp b) = _
    simp only [sealV0, AV.isPure, hb', pure_entB]
    simp
  have hp : (AV.agg [LLI p, LLI t, I n, .mp a, .mp b]).isPure = false := by
    simp [AV.isPure, AV.pureL]
  have sc : sealCells h [LLI p, LLI t, I n, .mp a, .mp b] = some ([LLI p, LLI t, I n, mvB ks, mvB ls], (h.put a (some (.mp true (entB ks)))).put b (some (.mp true (entB ls)))) := by
    simp only [sealCells, s1, s2, s3, s4, Option.bind_some, Option.map_some]
  simp only [sealA, hp, sc, Option.map_some]
  rfl

theorem load79 (u : Array Field) (a b c x y : AV) : loadC (some (.struct u)) (some 3) (some ([a, b, c, x, y], 0)) = some (.agg [a, b, c]) := loadC_agg _ 3 rfl _ 0 (by simp)
theorem f69_con (p t : List (List Int)) (N : Net p t) (s ls : List Int) (u v w : Int) (hv : 0 ≤ v ∧ v < p.length) (hls : hasB ls v = lowB p s v.toNat) : Con Try.prog cfg 69 [.agg [LLI p, LLI t, I p.length, mvB s, mvB ls], I u, I v, I w] (.bool (opB p s u v w)) := by
  have hal : ∀ g : Hp, allocB g (some (.agg [LLI p, LLI t, I p.length, mvB s, mvB ls])) = some (.ptr g.nx 0, g.alloc (.cells false false [LLI p, LLI t, I p.length, mvB s, mvB ls])) := fun g => allocB_agg _ rfl
  have k1 := fun h h' K => k78 (h := h) (h' := h') (K := K) p t N u v hv
  have k2 := fun h h' K => k78 (h := h) (h' := h') (K := K) p t N w v hv
  have l1 := fun b l => look_mv s b l v
  have l2 := fun b l => look_mv ls b l v
  rw [hls] at l2
  have hr : opB p s u v w = if hasB (nth p v.toNat) u && hasB (nth p v.toNat) w then lowB p s v.toNat else !hasB s v := rfl
  cases h1 : hasB (nth p v.toNat) u with
  | false =>
    rw [h1] at hr
    refine Con_intro Try.func69 rfl ok69 (Nat.le_of_ble_eq_true rfl) rfl ?_
    simp only [Try.f69, Option.getD_some, initSt4]
    simp (disch := first | (simp only [go_sem, Bool.and_self, eq_self]; done) | omega | (simp only [List.length_cons, List.length_nil]; omega)) only [go_sem, ↓reduceIte, Nat.reduceEqDiff, Nat.reduceAdd, Nat.reduceMul, Nat.reduceSub, Int.reduceToNat, Nat.reduceBEq, List.size_toArray, List.length_cons, List.length_nil, Bool.false_and, Bool.true_and, Bool.or_false, Bool.false_or, Bool.and_false, Bool.and_true, hal, load79, k1, l1, h1, hr, Bool.false_and]
  | true =>
  cases h2 : hasB (nth p v.toNat) w with
  | false =>
    rw [h1, h2] at hr
    refine Con_intro Try.func69 rfl ok69 (Nat.le_of_ble_eq_true rfl) rfl ?_
    simp only [Try.f69, Option.getD_some, initSt4]
    simp (disch := first | (simp only [go_sem, Bool.and_self, eq_self]; done) | omega | (simp only [List.length_cons, List.length_nil]; omega)) only [go_sem, ↓reduceIte, Nat.reduceEqDiff, Nat.reduceAdd, Nat.reduceMul, Nat.reduceSub, Int.reduceToNat, Nat.reduceBEq, List.size_toArray, List.length_cons, List.length_nil, Bool.false_and, Bool.true_and, Bool.or_false, Bool.false_or, Bool.and_false, Bool.and_true, hal, load79, k1, k2, l1, h1, h2, hr]
  | true =>
    rw [h1, h2] at hr
    refine Con_intro Try.func69 rfl ok69 (Nat.le_of_ble_eq_true rfl) rfl ?_
    simp only [Try.f69, Option.getD_some, initSt4]
    simp (disch := first | (simp only [go_sem, Bool.and_self, eq_self]; done) | omega | (simp only [List.length_cons, List.length_nil]; omega)) only [go_sem, ↓reduceIte, Nat.reduceEqDiff, Nat.reduceAdd, Nat.reduceMul, Nat.reduceSub, Int.reduceToNat, Nat.reduceBEq, List.size_toArray, List.length_cons, List.length_nil, Bool.false_and, Bool.true_and, Bool.or_false, Bool.false_or, Bool.and_false, Bool.and_true, hal, load79, k1, k2, l2, h1, h2, hr]

noncomputable def actR (p t : List (List Int)) (l s : List Int) : AV :=
  if netB p t && (diffB p.length s && (tB p l && (decide (2 ≤ l.length) && (!hasB s (nth l 0) && !hasB s (nth l (l.length - 1)))))) then .tup [.bool (actB p s l), I 0] else .tup [.bool false, I 2]
theorem actR_no {p t : List (List Int)} {l s : List Int} (h : (netB p t && (diffB p.length s && (tB p l && (decide (2 ≤ l.length) && (!hasB s (nth l 0) && !hasB s (nth l (l.length - 1))))))) = false) : actR p t l s = .tup [.bool false, I 2] := by
  rw [actR, h]; rfl
theorem f40_con (p t : List (List Int)) (hp : okLL p) (ht : okLL t) (l s : List Int) (hl : l.length + 2 ≤ maxLen) (hsl : s.length ≤ maxLen) : Con Try.prog cfg 40 [.agg [LLI p, LLI t], LI l, LI s] (actR p t l s) := by
  have ml : maxLen = 9223372036854775807 := by decide
  have kn := fun h h' K => k46 (h := h) (h' := h') (K := K) p t hp ht
  have n20 : ¬ (2 : Int) = 0 := by decide
  cases h1 : netB p t with
  | false =>
    have hr := actR_no (p := p) (t := t) (l := l) (s := s) (by rw [h1]; rfl)
    refine Con_intro Try.func40 rfl ok40 (Nat.le_of_ble_eq_true rfl) rfl ?_
    simp only [Try.f40, Option.getD_some, initSt3]
    simp (disch := first | (simp only [go_sem, Bool.and_self, eq_self]; done) | omega | (simp only [List.length_cons, List.length_nil]; omega)) only [go_sem, ↓reduceIte, Nat.reduceEqDiff, Nat.reduceAdd, Nat.reduceMul, Nat.reduceSub, Int.reduceToNat, Nat.reduceBEq, List.size_toArray, List.length_cons, List.length_nil, Bool.false_and, Bool.true_and, Bool.or_false, Bool.false_or, Bool.and_false, Bool.and_true, kn, netR_f h1, n20, hr]
  | true =>
  have N := Net.of h1
  have hn1 := N.n1
  refine Con_intro Try.func40 rfl ok40 (Nat.le_of_ble_eq_true rfl) rfl ?_
  simp only [Try.f40, Option.getD_some, initSt3]
  simp (disch := first | (simp only [go_sem, Bool.and_self, eq_self]; done) | omega | (simp only [List.length_cons, List.length_nil]; omega)) only [go_sem, ↓reduceIte, Nat.reduceEqDiff, Nat.reduceAdd, Nat.reduceMul, Nat.reduceSub, Int.reduceToNat, Nat.reduceBEq, List.size_toArray, List.length_cons, List.length_nil, Bool.false_and, Bool.true_and, Bool.or_false, Bool.false_or, Bool.and_false, Bool.and_true, kn, netR_t h1]
  refine CallW_shrE shr58 (f58_shr p t N s hsl _) ?_
  rintro v hA ⟨nA, fA, cA⟩
  have a1 := fA 1 (by show 1 < 2; omega)
  simp (disch := first | (simp only [go_sem, Bool.and_self, eq_self]; done) | omega | (simp only [List.length_cons, List.length_nil]; omega)) only [go_sem, ↓reduceIte, Nat.reduceEqDiff, Nat.reduceAdd, Nat.reduceMul, Nat.reduceSub, Int.reduceToNat, Nat.reduceBEq, List.size_toArray, List.length_cons, List.length_nil, Bool.false_and, Bool.true_and, Bool.or_false, Bool.false_or, Bool.and_false, Bool.and_true] at a1 nA cA
  have hstE : ∀ (h : Hp) (id : Nat), storeC h id 0 5 (some (.cells false false [.nil, .nil, I 0, .nilmp, .nilmp])) [.nil, .nil, I 0, .nilmp, .nilmp] = some (.skp, h.put id (some (.cells false false [.nil, .nil, I 0, .nilmp, .nilmp]))) := fun h id => by simp [storeC, setL, AV.isCell]
  have hst : ∀ (h : Hp) (id a b : Nat), storeC h id 0 5 (some (.cells false false [.nil, .nil, I 0, .nilmp, .nilmp])) [LLI p, LLI t, I p.length, .mp a, .mp b] = some (.skp, h.put id (some (.cells false false [LLI p, LLI t, I p.length, .mp a, .mp b]))) := fun h id a b => by simp [storeC, setL, AV.isCell]
  rcases cA with ⟨q1, rfl, ls, q3, q4, q5⟩ | ⟨q1, rfl⟩
  case inr =>
    have hr := actR_no (p := p) (t := t) (l := l) (s := s) (by rw [q1, Bool.false_and, Bool.and_false])
    simp (disch := first | (simp only [go_sem, Bool.and_self, eq_self]; done) | omega | (simp only [List.length_cons, List.length_nil]; omega)) only [go_sem, ↓reduceIte, Nat.reduceEqDiff, Nat.reduceAdd, Nat.reduceMul, Nat.reduceSub, Int.reduceToNat, Nat.reduceBEq, List.size_toArray, List.length_cons, List.length_nil, Bool.false_and, Bool.true_and, Bool.or_false, Bool.false_or, Bool.and_false, Bool.and_true, hstE, n20, hr]
  have hx := hA.nx
  have m2 : hA.bl 4 = some (.mp false (entB s)) := q3
  have m3 : hA.bl 5 = some (.mp false (entB ls)) := q4
  have k68 := fun h h' K => ConW_num (h := h) (h' := h') (K := K) (f68_con p t N l (by omega)) rfl
  have u1 : ¬ 1 = hA.nx := by omega
  have u4 : ¬ 4 = hA.nx := by omega
  have u5 : ¬ 5 = hA.nx := by omega
  have v1 : 1 < hA.nx + 1 := by omega
  have v4 : 4 < hA.nx + 1 := by omega
  have v5 : 5 < hA.nx + 1 := by omega
  have v6 : hA.nx < hA.nx + 1 := by omega
  cases htB : tB p l && decide (2 ≤ l.length) with
  | false =>
    have hr := actR_no (p := p) (t := t) (l := l) (s := s) (by
      cases h2 : tB p l with
      | false => simp
      | true => rw [h2, Bool.true_and] at htB; simp [htB])
    simp (disch := first | (simp only [go_sem, Bool.and_self, eq_self]; done) | omega | (simp only [List.length_cons, List.length_nil]; omega)) only [go_sem, ↓reduceIte, Nat.reduceEqDiff, Nat.reduceAdd, Nat.reduceMul, Nat.reduceSub, Int.reduceToNat, Nat.reduceBEq, List.size_toArray, List.length_cons, List.length_nil, Bool.false_and, Bool.true_and, Bool.or_false, Bool.false_or, Bool.and_false, Bool.and_true, a1, hst, k68, htB, u1, u4, u5, v1, v4, v5, v6, n20, hr]
  | true =>
  rw [Bool.and_eq_true, decide_eq_true_eq] at htB
  obtain ⟨ht1, ht2⟩ := htB
  have htB : (tB p l && decide (2 ≤ l.length)) = true := by rw [ht1]; simp [ht2]
  have hd := tB_diff ht1
  have z0 : (0 : Int) < l.length := by omega
  have z0' : 0 < l.length := by omega
  have z1 : (0 : Int) ≤ (l.length : Int) - 1 := by omega
  have z2 : (l.length : Int) - 1 < l.length := by omega
  have z3 : ((l.length : Int) - 1).toNat = l.length - 1 := by omega
  have hlk0 := look_B 4 false s (nth l 0)
  have hlkN := look_B 4 false s (nth l (l.length - 1))
  cases e0 : hasB s (nth l 0) with
  | true =>
    have hr := actR_no (p := p) (t := t) (l := l) (s := s) (by rw [e0]; simp)
    rw [e0] at hlk0
    simp (disch := first | (simp only [go_sem, Bool.and_self, eq_self]; done) | omega | (simp only [List.length_cons, List.length_nil]; omega)) only [go_sem, ↓reduceIte, Nat.reduceEqDiff, Nat.reduceAdd, Nat.reduceMul, Nat.reduceSub, Int.reduceToNat, Nat.reduceBEq, List.size_toArray, List.length_cons, List.length_nil, Bool.false_and, Bool.true_and, Bool.or_false, Bool.false_or, Bool.and_false, Bool.and_true, a1, m2, hst, k68, htB, u1, u4, u5, v1, v4, v5, v6, z0, z0', z1, z2, z3, hlk0, n20, hr]
  | false =>
  cases eN : hasB s (nth l (l.length - 1)) with
  | true =>
    have hr := actR_no (p := p) (t := t) (l := l) (s := s) (by rw [eN]; simp)
    rw [e0] at hlk0
    rw [eN] at hlkN
    simp (disch := first | (simp only [go_sem, Bool.and_self, eq_self]; done) | omega | (simp only [List.length_cons, List.length_nil]; omega)) only [go_sem, ↓reduceIte, Nat.reduceEqDiff, Nat.reduceAdd, Nat.reduceMul, Nat.reduceSub, Int.reduceToNat, Nat.reduceBEq, List.size_toArray, List.length_cons, List.length_nil, Bool.false_and, Bool.true_and, Bool.or_false, Bool.false_or, Bool.and_false, Bool.and_true, a1, m2, hst, k68, htB, u1, u4, u5, v1, v4, v5, v6, z0, z0', z1, z2, z3, hlk0, hlkN, n20, hr]
  | false =>
  have hr : actR p t l s = .tup [.bool (actB p s l), I 0] := by
    have h2 : decide (2 ≤ l.length) = true := by simp [ht2]
    rw [actR, h1, q1, ht1, h2, e0, eN]; rfl
  rw [e0] at hlk0
  rw [eN] at hlkN
  simp (disch := first | (simp only [go_sem, Bool.and_self, eq_self]; done) | omega | (simp only [List.length_cons, List.length_nil]; omega)) only [go_sem, ↓reduceIte, Nat.reduceEqDiff, Nat.reduceAdd, Nat.reduceMul, Nat.reduceSub, Int.reduceToNat, Nat.reduceBEq, List.size_toArray, List.length_cons, List.length_nil, Bool.false_and, Bool.true_and, Bool.or_false, Bool.false_or, Bool.and_false, Bool.and_true, a1, m2, hst, k68, htB, u1, u4, u5, v1, v4, v5, v6, z0, z0', z1, z2, z3, hlk0, hlkN]
  refine WP_for1 12 l.length (fun i st h => st 1 = LI l ∧ st 6 = .bool false ∧ st 7 = I 0 ∧ st 10 = .ptr hA.nx 0 ∧ hA.nx < h.nx ∧ h.bl hA.nx = some (.cells false false [LLI p, LLI t, I p.length, .mp 4, .mp 5]) ∧ h.bl 4 = some (.mp false (entB s)) ∧ h.bl 5 = some (.mp false (entB ls)) ∧ ∀ j, j < i → j + 2 < l.length → opB p s (nth l j) (nth l (j + 1)) (nth l (j + 2)) = true) (by simp (disch := first | (simp only [go_sem, Bool.and_self, eq_self]; done) | omega | (simp only [List.length_cons, List.length_nil]; omega)) only [go_sem, ↓reduceIte, Nat.reduceEqDiff, Nat.reduceAdd, Nat.reduceMul, Nat.reduceSub, Int.reduceToNat, Nat.reduceBEq, List.size_toArray, List.length_cons, List.length_nil, Bool.false_and, Bool.true_and, Bool.or_false, Bool.false_or, Bool.and_false, Bool.and_true]) ⟨by simp (disch := first | (simp only [go_sem, Bool.and_self, eq_self]; done) | omega | (simp only [List.length_cons, List.length_nil]; omega)) only [go_sem, ↓reduceIte, Nat.reduceEqDiff, Nat.reduceAdd, Nat.reduceMul, Nat.reduceSub, Int.reduceToNat, Nat.reduceBEq, List.size_toArray, List.length_cons, List.length_nil, Bool.false_and, Bool.true_and, Bool.or_false, Bool.false_or, Bool.and_false, Bool.and_true], by simp (disch := first | (simp only [go_sem, Bool.and_self, eq_self]; done) | omega | (simp only [List.length_cons, List.length_nil]; omega)) only [go_sem, ↓reduceIte, Nat.reduceEqDiff, Nat.reduceAdd, Nat.reduceMul, Nat.reduceSub, Int.reduceToNat, Nat.reduceBEq, List.size_toArray, List.length_cons, List.length_nil, Bool.false_and, Bool.true_and, Bool.or_false, Bool.false_or, Bool.and_false, Bool.and_true], by simp (disch := first | (simp only [go_sem, Bool.and_self, eq_self]; done) | omega | (simp only [List.length_cons, List.length_nil]; omega)) only [go_sem, ↓reduceIte, Nat.reduceEqDiff, Nat.reduceAdd, Nat.reduceMul, Nat.reduceSub, Int.reduceToNat, Nat.reduceBEq, List.size_toArray, List.length_cons, List.length_nil, Bool.false_and, Bool.true_and, Bool.or_false, Bool.false_or, Bool.and_false, Bool.and_true], by simp (disch := first | (simp only [go_sem, Bool.and_self, eq_self]; done) | omega | (simp only [List.length_cons, List.length_nil]; omega)) only [go_sem, ↓reduceIte, Nat.reduceEqDiff, Nat.reduceAdd, Nat.reduceMul, Nat.reduceSub, Int.reduceToNat, Nat.reduceBEq, List.size_toArray, List.length_cons, List.length_nil, Bool.false_and, Bool.true_and, Bool.or_false, Bool.false_or, Bool.and_false, Bool.and_true], by simp (disch := first | (simp only [go_sem, Bool.and_self, eq_self]; done) | omega | (simp only [List.length_cons, List.length_nil]; omega)) only [go_sem, ↓reduceIte, Nat.reduceEqDiff, Nat.reduceAdd, Nat.reduceMul, Nat.reduceSub, Int.reduceToNat, Nat.reduceBEq, List.size_toArray, List.length_cons, List.length_nil, Bool.false_and, Bool.true_and, Bool.or_false, Bool.false_or, Bool.and_false, Bool.and_true]; omega, by simp (disch := first | (simp only [go_sem, Bool.and_self, eq_self]; done) | omega | (simp only [List.length_cons, List.length_nil]; omega)) only [go_sem, ↓reduceIte, Nat.reduceEqDiff, Nat.reduceAdd, Nat.reduceMul, Nat.reduceSub, Int.reduceToNat, Nat.reduceBEq, List.size_toArray, List.length_cons, List.length_nil, Bool.false_and, Bool.true_and, Bool.or_false, Bool.false_or, Bool.and_false, Bool.and_true], by simp (disch := first | (simp only [go_sem, Bool.and_self, eq_self]; done) | omega | (simp only [List.length_cons, List.length_nil]; omega)) only [go_sem, ↓reduceIte, Nat.reduceEqDiff, Nat.reduceAdd, Nat.reduceMul, Nat.reduceSub, Int.reduceToNat, Nat.reduceBEq, List.size_toArray, List.length_cons, List.length_nil, Bool.false_and, Bool.true_and, Bool.or_false, Bool.false_or, Bool.and_false, Bool.and_true, m2, u4], by simp (disch := first | (simp only [go_sem, Bool.and_self, eq_self]; done) | omega | (simp only [List.length_cons, List.length_nil]; omega)) only [go_sem, ↓reduceIte, Nat.reduceEqDiff, Nat.reduceAdd, Nat.reduceMul, Nat.reduceSub, Int.reduceToNat, Nat.reduceBEq, List.size_toArray, List.length_cons, List.length_nil, Bool.false_and, Bool.true_and, Bool.or_false, Bool.false_or, Bool.and_false, Bool.and_true, m3, u5], by omega⟩ ?_
  rintro i st h hi s12 ⟨s1, s6, s7, s10, hnx, bG, bs, bl, hg⟩
  by_cases hlt : i + 2 < l.length
  case neg =>
    have hra : actB p s l = true := all_range fun j hj => hg j (by omega) (by omega)
    have hlt' : ¬ (i : Int) + 1 + 1 < l.length := by omega
    rw [hra] at hr
    simp (disch := first | (simp only [go_sem, Bool.and_self, eq_self]; done) | omega | (simp only [List.length_cons, List.length_nil]; omega)) only [go_sem, ↓reduceIte, Nat.reduceEqDiff, Nat.reduceAdd, Nat.reduceMul, Nat.reduceSub, Int.reduceToNat, Nat.reduceBEq, List.size_toArray, List.length_cons, List.length_nil, Bool.false_and, Bool.true_and, Bool.or_false, Bool.false_or, Bool.and_false, Bool.and_true, s1, s6, s7, s12, hlt', hr]
  have hlt' : (i : Int) + 1 + 1 < l.length := by omega
  have hl1 : (i : Int) + 1 < l.length := by omega
  have hj0 : ((i : Int) + 1 - 1).toNat = i := by omega
  have hj1 : ((i : Int) + 1).toNat = i + 1 := by omega
  have hj2 : ((i : Int) + 1 + 1).toNat = i + 2 := by omega
  have hz0 : (0 : Int) ≤ (i : Int) + 1 - 1 := by omega
  have hz1 : (0 : Int) ≤ (i : Int) + 1 := by omega
  have hz2 : (0 : Int) ≤ (i : Int) + 1 + 1 := by omega
  have hzl : (i : Int) + 1 - 1 < l.length := by omega
  obtain ⟨v0, v1'⟩ := diffB_in hd (show i + 1 < l.length by omega)
  have hvn : (((nth l (i + 1)).toNat : Nat) : Int) = nth l (i + 1) := by omega
  have hlv := q5 (nth l (i + 1)).toNat (by omega)
  rw [hvn] at hlv
  have k69 := fun h h' K => ConW_num (h := h) (h' := h') (K := K) (f69_con p t N s ls (nth l i) (nth l (i + 1)) (nth l (i + 2)) ⟨v0, v1'⟩ hlv) rfl
  have hse := seal_graph p t p.length 4 5 (by decide) s ls h bs bl
  have hl99 : ∀ u, loadC (some (.struct u)) (some 5) (some ([LLI p, LLI t, I p.length, .mp 4, .mp 5], 0)) = some (.agg [LLI p, LLI t, I p.length, .mp 4, .mp 5]) := fun u => loadC_agg _ 5 rfl _ 0 (by simp)
  cases ho : opB p s (nth l i) (nth l (i + 1)) (nth l (i + 2)) with
  | false =>
    have hra : actB p s l = false := not_all_range (i := i) (by omega) ho
    rw [hra] at hr
    simp (disch := first | (simp only [go_sem, Bool.and_self, eq_self]; done) | omega | (simp only [List.length_cons, List.length_nil]; omega)) only [go_sem, ↓reduceIte, Nat.reduceEqDiff, Nat.reduceAdd, Nat.reduceMul, Nat.reduceSub, Int.reduceToNat, Nat.reduceBEq, List.size_toArray, List.length_cons, List.length_nil, Bool.false_and, Bool.true_and, Bool.or_false, Bool.false_or, Bool.and_false, Bool.and_true, s1, s6, s7, s10, s12, hlt', hl1, bG, hnx, hl99, hse, k69, ho, hj0, hj1, hj2, hz0, hz1, hz2, hzl, hr]
  | true =>
    simp (disch := first | (simp only [go_sem, Bool.and_self, eq_self]; done) | omega | (simp only [List.length_cons, List.length_nil]; omega)) only [go_sem, ↓reduceIte, Nat.reduceEqDiff, Nat.reduceAdd, Nat.reduceMul, Nat.reduceSub, Int.reduceToNat, Nat.reduceBEq, List.size_toArray, List.length_cons, List.length_nil, Bool.false_and, Bool.true_and, Bool.or_false, Bool.false_or, Bool.and_false, Bool.and_true, s1, s6, s7, s10, s12, hlt', hl1, bG, hnx, hl99, hse, k69, ho, hj0, hj1, hj2, hz0, hz1, hz2, hzl]
    rw [For1K_normal]
    refine ⟨by omega, by simp (disch := first | (simp only [go_sem, Bool.and_self, eq_self]; done) | omega | (simp only [List.length_cons, List.length_nil]; omega)) only [go_sem, ↓reduceIte, Nat.reduceEqDiff, Nat.reduceAdd, Nat.reduceMul, Nat.reduceSub, Int.reduceToNat, Nat.reduceBEq, List.size_toArray, List.length_cons, List.length_nil, Bool.false_and, Bool.true_and, Bool.or_false, Bool.false_or, Bool.and_false, Bool.and_true, s12], by simp (disch := first | (simp only [go_sem, Bool.and_self, eq_self]; done) | omega | (simp only [List.length_cons, List.length_nil]; omega)) only [go_sem, ↓reduceIte, Nat.reduceEqDiff, Nat.reduceAdd, Nat.reduceMul, Nat.reduceSub, Int.reduceToNat, Nat.reduceBEq, List.size_toArray, List.length_cons, List.length_nil, Bool.false_and, Bool.true_and, Bool.or_false, Bool.false_or, Bool.and_false, Bool.and_true, s1], by simp (disch := first | (simp only [go_sem, Bool.and_self, eq_self]; done) | omega | (simp only [List.length_cons, List.length_nil]; omega)) only [go_sem, ↓reduceIte, Nat.reduceEqDiff, Nat.reduceAdd, Nat.reduceMul, Nat.reduceSub, Int.reduceToNat, Nat.reduceBEq, List.size_toArray, List.length_cons, List.length_nil, Bool.false_and, Bool.true_and, Bool.or_false, Bool.false_or, Bool.and_false, Bool.and_true, s6], by simp (disch := first | (simp only [go_sem, Bool.and_self, eq_self]; done) | omega | (simp only [List.length_cons, List.length_nil]; omega)) only [go_sem, ↓reduceIte, Nat.reduceEqDiff, Nat.reduceAdd, Nat.reduceMul, Nat.reduceSub, Int.reduceToNat, Nat.reduceBEq, List.size_toArray, List.length_cons, List.length_nil, Bool.false_and, Bool.true_and, Bool.or_false, Bool.false_or, Bool.and_false, Bool.and_true, s7], by simp (disch := first | (simp only [go_sem, Bool.and_self, eq_self]; done) | omega | (simp only [List.length_cons, List.length_nil]; omega)) only [go_sem, ↓reduceIte, Nat.reduceEqDiff, Nat.reduceAdd, Nat.reduceMul, Nat.reduceSub, Int.reduceToNat, Nat.reduceBEq, List.size_toArray, List.length_cons, List.length_nil, Bool.false_and, Bool.true_and, Bool.or_false, Bool.false_or, Bool.and_false, Bool.and_true, s10], hnx, bG, bs, bl, fun j hj hj2 => ?_⟩
    rcases Nat.lt_or_ge j i with h3 | h3
    · exact hg j h3 hj2
    · rw [show j = i by omega]; exact ho

end Go.Proofs.Ytpkakapbepkfdaa

set_option linter.unusedVariables false
set_option linter.unusedSimpArgs false
set_option maxRecDepth 10000
namespace Go.Proofs.Ytpkakapbepkfdaa
open Go Go.Am

variable {h h' : Hp} {K : AV → Hp → Prop}

def endB (l s : List Int) (i : Nat) : Bool := decide (nth s i = nth l 0) || decide (nth s i = nth l (l.length - 1))
theorem end_all {l s : List Int} (h : ∀ j, j < s.length → endB l s j = false) : hasB s (nth l 0) = false ∧ hasB s (nth l (l.length - 1)) = false := by
  refine ⟨hasB_no fun i hi e => ?_, hasB_no fun i hi e => ?_⟩
  · have := h i hi; simp [endB, e] at this
  · have := h i hi; simp [endB, e] at this
theorem end_one {l s : List Int} {i : Nat} (hi : i < s.length) (h : endB l s i = true) : hasB s (nth l 0) = true ∨ hasB s (nth l (l.length - 1)) = true := by
  simp only [endB, Bool.or_eq_true, decide_eq_true_eq] at h
  rcases h with h | h
  · exact .inl (hasB_iff.2 ⟨i, hi, h⟩)
  · exact .inr (hasB_iff.2 ⟨i, hi, h⟩)

theorem f11_tail (p t : List (List Int)) (l s : List Int) (hll : l.length ≤ 20) (hsl : s.length ≤ 20) (is b0 : Bool) (e : Int) (st : St) (h : Hp) (s6 : st 6 = .bool false) (s7 : st 7 = .ptr 1 0) (s8 : st 8 = LI l) (s9 : st 9 = LI s) (s10 : st 10 = .bool is) (s11 : st 11 = I e) (s13 : st 13 = .bool b0)
    (hbad : b0 = true → is = false ∧ e = 2) (hgood : b0 = false → 2 ≤ h.nx ∧ h.bl 1 = some (.cells false false [LLI p, LLI t]) ∧ netB p t = true ∧ diffB p.length s = true ∧ tB p l = true ∧ 2 ≤ l.length ∧ actR p t l s = .tup [.bool is, I e]) :
    WP Try.prog cfgX (tailN 5 (Try.f11.body.getD .skip)) st h (RetK Try.prog (cfgX.own 11) (cfgX.keepNil 11) Try.f11.results.toList Try.f11.resultTypes.toList (.bool true)) := by
  have ml : maxLen = 9223372036854775807 := by decide
  simp only [tailN, Try.f11, Option.getD_some]
  simp (disch := first | (simp only [go_sem, Bool.and_self, eq_self]; done) | omega | (simp only [List.length_cons, List.length_nil]; omega)) only [go_sem, ↓reduceIte, Nat.reduceEqDiff, Nat.reduceAdd, Nat.reduceMul, Nat.reduceSub, Int.reduceToNat, Nat.reduceBEq, List.size_toArray, List.length_cons, List.length_nil, Bool.false_and, Bool.true_and, Bool.or_false, Bool.false_or, Bool.and_false, Bool.and_true, s6, s7, s8, s9, s10, s11, s13]
  have n20 : (2 : Int) = 2 := rfl
  -- what the loop comes to
  refine WP_cut (fun st h' => st 6 = .bool false ∧ st 7 = .ptr 1 0 ∧ st 8 = LI l ∧ st 9 = LI s ∧ st 10 = .bool is ∧ st 11 = I e ∧ h' = h ∧ ∃ b : Bool, st 13 = .bool b ∧ (b = true → is = false ∧ e = 2) ∧ (b = false → 2 ≤ h.nx ∧ h.bl 1 = some (.cells false false [LLI p, LLI t]) ∧ netB p t = true ∧ diffB p.length s = true ∧ tB p l = true ∧ 2 ≤ l.length ∧ e = 0 ∧ is = actB p s l)) ?_ ?_
  · cases b0 with
    | true =>
      refine WP_for 14 0 (fun i st h' => st 6 = .bool false ∧ st 7 = .ptr 1 0 ∧ st 8 = LI l ∧ st 9 = LI s ∧ st 10 = .bool is ∧ st 11 = I e ∧ h' = h ∧ st 13 = .bool true) (by simp (disch := first | (simp only [go_sem, Bool.and_self, eq_self]; done) | omega | (simp only [List.length_cons, List.length_nil]; omega)) only [go_sem, ↓reduceIte, Nat.reduceEqDiff, Nat.reduceAdd, Nat.reduceMul, Nat.reduceSub, Int.reduceToNat, Nat.reduceBEq, List.size_toArray, List.length_cons, List.length_nil, Bool.false_and, Bool.true_and, Bool.or_false, Bool.false_or, Bool.and_false, Bool.and_true]) ⟨by simp (disch := first | (simp only [go_sem, Bool.and_self, eq_self]; done) | omega | (simp only [List.length_cons, List.length_nil]; omega)) only [go_sem, ↓reduceIte, Nat.reduceEqDiff, Nat.reduceAdd, Nat.reduceMul, Nat.reduceSub, Int.reduceToNat, Nat.reduceBEq, List.size_toArray, List.length_cons, List.length_nil, Bool.false_and, Bool.true_and, Bool.or_false, Bool.false_or, Bool.and_false, Bool.and_true, s6, s7, s8, s9, s10, s11], by simp (disch := first | (simp only [go_sem, Bool.and_self, eq_self]; done) | omega | (simp only [List.length_cons, List.length_nil]; omega)) only [go_sem, ↓reduceIte, Nat.reduceEqDiff, Nat.reduceAdd, Nat.reduceMul, Nat.reduceSub, Int.reduceToNat, Nat.reduceBEq, List.size_toArray, List.length_cons, List.length_nil, Bool.false_and, Bool.true_and, Bool.or_false, Bool.false_or, Bool.and_false, Bool.and_true, s6, s7, s8, s9, s10, s11], by simp (disch := first | (simp only [go_sem, Bool.and_self, eq_self]; done) | omega | (simp only [List.length_cons, List.length_nil]; omega)) only [go_sem, ↓reduceIte, Nat.reduceEqDiff, Nat.reduceAdd, Nat.reduceMul, Nat.reduceSub, Int.reduceToNat, Nat.reduceBEq, List.size_toArray, List.length_cons, List.length_nil, Bool.false_and, Bool.true_and, Bool.or_false, Bool.false_or, Bool.and_false, Bool.and_true, s6, s7, s8, s9, s10, s11], by simp (disch := first | (simp only [go_sem, Bool.and_self, eq_self]; done) | omega | (simp only [List.length_cons, List.length_nil]; omega)) only [go_sem, ↓reduceIte, Nat.reduceEqDiff, Nat.reduceAdd, Nat.reduceMul, Nat.reduceSub, Int.reduceToNat, Nat.reduceBEq, List.size_toArray, List.length_cons, List.length_nil, Bool.false_and, Bool.true_and, Bool.or_false, Bool.false_or, Bool.and_false, Bool.and_true, s6, s7, s8, s9, s10, s11], by simp (disch := first | (simp only [go_sem, Bool.and_self, eq_self]; done) | omega | (simp only [List.length_cons, List.length_nil]; omega)) only [go_sem, ↓reduceIte, Nat.reduceEqDiff, Nat.reduceAdd, Nat.reduceMul, Nat.reduceSub, Int.reduceToNat, Nat.reduceBEq, List.size_toArray, List.length_cons, List.length_nil, Bool.false_and, Bool.true_and, Bool.or_false, Bool.false_or, Bool.and_false, Bool.and_true, s6, s7, s8, s9, s10, s11], by simp (disch := first | (simp only [go_sem, Bool.and_self, eq_self]; done) | omega | (simp only [List.length_cons, List.length_nil]; omega)) only [go_sem, ↓reduceIte, Nat.reduceEqDiff, Nat.reduceAdd, Nat.reduceMul, Nat.reduceSub, Int.reduceToNat, Nat.reduceBEq, List.size_toArray, List.length_cons, List.length_nil, Bool.false_and, Bool.true_and, Bool.or_false, Bool.false_or, Bool.and_false, Bool.and_true, s6, s7, s8, s9, s10, s11], rfl, by simp (disch := first | (simp only [go_sem, Bool.and_self, eq_self]; done) | omega | (simp only [List.length_cons, List.length_nil]; omega)) only [go_sem, ↓reduceIte, Nat.reduceEqDiff, Nat.reduceAdd, Nat.reduceMul, Nat.reduceSub, Int.reduceToNat, Nat.reduceBEq, List.size_toArray, List.length_cons, List.length_nil, Bool.false_and, Bool.true_and, Bool.or_false, Bool.false_or, Bool.and_false, Bool.and_true, s13]⟩ ?_
      rintro i st h' hi s14 ⟨s6, s7, s8, s9, s10, s11, rfl, s13⟩
      by_cases hlt : i < s.length
      · simp (disch := first | (simp only [go_sem, Bool.and_self, eq_self]; done) | omega | (simp only [List.length_cons, List.length_nil]; omega)) only [go_sem, ↓reduceIte, Nat.reduceEqDiff, Nat.reduceAdd, Nat.reduceMul, Nat.reduceSub, Int.reduceToNat, Nat.reduceBEq, List.size_toArray, List.length_cons, List.length_nil, Bool.false_and, Bool.true_and, Bool.or_false, Bool.false_or, Bool.and_false, Bool.and_true, s6, s7, s8, s9, s10, s11, s13, s14, hlt]
        exact ⟨true, rfl, hbad, fun h => by cases h⟩
      · simp (disch := first | (simp only [go_sem, Bool.and_self, eq_self]; done) | omega | (simp only [List.length_cons, List.length_nil]; omega)) only [go_sem, ↓reduceIte, Nat.reduceEqDiff, Nat.reduceAdd, Nat.reduceMul, Nat.reduceSub, Int.reduceToNat, Nat.reduceBEq, List.size_toArray, List.length_cons, List.length_nil, Bool.false_and, Bool.true_and, Bool.or_false, Bool.false_or, Bool.and_false, Bool.and_true, s6, s7, s8, s9, s10, s11, s13, s14, hlt]
        exact ⟨true, rfl, hbad, fun h => by cases h⟩
    | false =>
      obtain ⟨gn, g1, h1, hs, ht, h2, hr⟩ := hgood rfl
      have z0 : (0 : Int) < l.length := by omega
      have z0' : 0 < l.length := by omega
      have z1 : (0 : Int) ≤ (l.length : Int) - 1 := by omega
      have z2 : (l.length : Int) - 1 < l.length := by omega
      have z3 : ((l.length : Int) - 1).toNat = l.length - 1 := by omega
      refine WP_for 14 s.length (fun i st h' => st 6 = .bool false ∧ st 7 = .ptr 1 0 ∧ st 8 = LI l ∧ st 9 = LI s ∧ st 10 = .bool is ∧ st 11 = I e ∧ h' = h ∧ ∃ b : Bool, st 13 = .bool b ∧ (b = true → ∃ j, j < s.length ∧ endB l s j = true) ∧ (b = false → ∀ j, j < i → endB l s j = false)) (by simp (disch := first | (simp only [go_sem, Bool.and_self, eq_self]; done) | omega | (simp only [List.length_cons, List.length_nil]; omega)) only [go_sem, ↓reduceIte, Nat.reduceEqDiff, Nat.reduceAdd, Nat.reduceMul, Nat.reduceSub, Int.reduceToNat, Nat.reduceBEq, List.size_toArray, List.length_cons, List.length_nil, Bool.false_and, Bool.true_and, Bool.or_false, Bool.false_or, Bool.and_false, Bool.and_true]) ⟨by simp (disch := first | (simp only [go_sem, Bool.and_self, eq_self]; done) | omega | (simp only [List.length_cons, List.length_nil]; omega)) only [go_sem, ↓reduceIte, Nat.reduceEqDiff, Nat.reduceAdd, Nat.reduceMul, Nat.reduceSub, Int.reduceToNat, Nat.reduceBEq, List.size_toArray, List.length_cons, List.length_nil, Bool.false_and, Bool.true_and, Bool.or_false, Bool.false_or, Bool.and_false, Bool.and_true, s6, s7, s8, s9, s10, s11], by simp (disch := first | (simp only [go_sem, Bool.and_self, eq_self]; done) | omega | (simp only [List.length_cons, List.length_nil]; omega)) only [go_sem, ↓reduceIte, Nat.reduceEqDiff, Nat.reduceAdd, Nat.reduceMul, Nat.reduceSub, Int.reduceToNat, Nat.reduceBEq, List.size_toArray, List.length_cons, List.length_nil, Bool.false_and, Bool.true_and, Bool.or_false, Bool.false_or, Bool.and_false, Bool.and_true, s6, s7, s8, s9, s10, s11], by simp (disch := first | (simp only [go_sem, Bool.and_self, eq_self]; done) | omega | (simp only [List.length_cons, List.length_nil]; omega)) only [go_sem, ↓reduceIte, Nat.reduceEqDiff, Nat.reduceAdd, Nat.reduceMul, Nat.reduceSub, Int.reduceToNat, Nat.reduceBEq, List.size_toArray, List.length_cons, List.length_nil, Bool.false_and, Bool.true_and, Bool.or_false, Bool.false_or, Bool.and_false, Bool.and_true, s6, s7, s8, s9, s10, s11], by simp (disch := first | (simp only [go_sem, Bool.and_self, eq_self]; done) | omega | (simp only [List.length_cons, List.length_nil]; omega)) only [go_sem, ↓reduceIte, Nat.reduceEqDiff, Nat.reduceAdd, Nat.reduceMul, Nat.reduceSub, Int.reduceToNat, Nat.reduceBEq, List.size_toArray, List.length_cons, List.length_nil, Bool.false_and, Bool.true_and, Bool.or_false, Bool.false_or, Bool.and_false, Bool.and_true, s6, s7, s8, s9, s10, s11], by simp (disch := first | (simp only [go_sem, Bool.and_self, eq_self]; done) | omega | (simp only [List.length_cons, List.length_nil]; omega)) only [go_sem, ↓reduceIte, Nat.reduceEqDiff, Nat.reduceAdd, Nat.reduceMul, Nat.reduceSub, Int.reduceToNat, Nat.reduceBEq, List.size_toArray, List.length_cons, List.length_nil, Bool.false_and, Bool.true_and, Bool.or_false, Bool.false_or, Bool.and_false, Bool.and_true, s6, s7, s8, s9, s10, s11], by simp (disch := first | (simp only [go_sem, Bool.and_self, eq_self]; done) | omega | (simp only [List.length_cons, List.length_nil]; omega)) only [go_sem, ↓reduceIte, Nat.reduceEqDiff, Nat.reduceAdd, Nat.reduceMul, Nat.reduceSub, Int.reduceToNat, Nat.reduceBEq, List.size_toArray, List.length_cons, List.length_nil, Bool.false_and, Bool.true_and, Bool.or_false, Bool.false_or, Bool.and_false, Bool.and_true, s6, s7, s8, s9, s10, s11], rfl, false, by simp (disch := first | (simp only [go_sem, Bool.and_self, eq_self]; done) | omega | (simp only [List.length_cons, List.length_nil]; omega)) only [go_sem, ↓reduceIte, Nat.reduceEqDiff, Nat.reduceAdd, Nat.reduceMul, Nat.reduceSub, Int.reduceToNat, Nat.reduceBEq, List.size_toArray, List.length_cons, List.length_nil, Bool.false_and, Bool.true_and, Bool.or_false, Bool.false_or, Bool.and_false, Bool.and_true, s13], fun h => (by cases h), fun _ => by omega⟩ ?_
      rintro i st h' hi s14 ⟨s6, s7, s8, s9, s10, s11, rfl, b, s13, hb1, hb2⟩
      have bad : (∃ j, j < s.length ∧ endB l s j = true) → is = false ∧ e = 2 := fun ⟨j, hj, hj2⟩ => by
        have hno : actR p t l s = .tup [.bool false, I 2] := actR_no (by
          rcases end_one hj hj2 with h | h
          · rw [h]; simp
          · rw [h]; simp)
        rw [hno] at hr
        injection hr with hr
        injection hr with hr1 hr2
        injection hr1 with hr1
        injection hr2 with hr2
        injection hr2 with _ hr2
        exact ⟨hr1.symm, hr2.symm⟩
      have good : (∀ j, j < s.length → endB l s j = false) → e = 0 ∧ is = actB p s l := fun hh => by
        obtain ⟨e0, eN⟩ := end_all hh
        have h2' : decide (2 ≤ l.length) = true := by simp [h2]
        rw [actR, h1, hs, ht, h2', e0, eN] at hr
        simp only [Bool.and_self, Bool.not_false, if_true] at hr
        injection hr with hr
        injection hr with hr1 hr2
        injection hr1 with hr1
        injection hr2 with hr2
        injection hr2 with _ hr2
        exact ⟨hr2.symm, hr1.symm⟩
      by_cases hlt : i < s.length
      case neg =>
        simp (disch := first | (simp only [go_sem, Bool.and_self, eq_self]; done) | omega | (simp only [List.length_cons, List.length_nil]; omega)) only [go_sem, ↓reduceIte, Nat.reduceEqDiff, Nat.reduceAdd, Nat.reduceMul, Nat.reduceSub, Int.reduceToNat, Nat.reduceBEq, List.size_toArray, List.length_cons, List.length_nil, Bool.false_and, Bool.true_and, Bool.or_false, Bool.false_or, Bool.and_false, Bool.and_true, s6, s7, s8, s9, s10, s11, s13, s14, hlt]
        refine ⟨b, rfl, fun h => bad (hb1 h), fun h => ?_⟩
        obtain ⟨g1', g2'⟩ := good fun j hj => hb2 h j (by omega)
        exact ⟨gn, g1, h1, hs, ht, h2, g1', g2'⟩
      cases b with
      | true =>
        simp (disch := first | (simp only [go_sem, Bool.and_self, eq_self]; done) | omega | (simp only [List.length_cons, List.length_nil]; omega)) only [go_sem, ↓reduceIte, Nat.reduceEqDiff, Nat.reduceAdd, Nat.reduceMul, Nat.reduceSub, Int.reduceToNat, Nat.reduceBEq, List.size_toArray, List.length_cons, List.length_nil, Bool.false_and, Bool.true_and, Bool.or_false, Bool.false_or, Bool.and_false, Bool.and_true, s6, s7, s8, s9, s10, s11, s13, s14, hlt]
        exact ⟨true, rfl, fun h => bad (hb1 h), fun h => by cases h⟩
      | false =>
        have fin : ∀ b : Bool, b = endB l s i → (b = true → ∃ j, j < s.length ∧ endB l s j = true) ∧ (b = false → ∀ j, j < i + 1 → endB l s j = false) := fun b hb => ⟨fun h => ⟨i, hlt, by rw [← hb]; exact h⟩, fun h j hj => by
          rcases Nat.lt_or_ge j i with h3 | h3
          · exact hb2 rfl j h3
          · rw [show j = i by omega, ← hb]; exact h⟩
        by_cases h3 : nth s i = nth l 0
        · have he : endB l s i = true := by simp [endB, h3]
          have h3' : decide (nth s i = nth l 0) = true := by simp [h3]
          simp (disch := first | (simp only [go_sem, Bool.and_self, eq_self]; done) | omega | (simp only [List.length_cons, List.length_nil]; omega)) only [go_sem, ↓reduceIte, Nat.reduceEqDiff, Nat.reduceAdd, Nat.reduceMul, Nat.reduceSub, Int.reduceToNat, Nat.reduceBEq, List.size_toArray, List.length_cons, List.length_nil, Bool.false_and, Bool.true_and, Bool.or_false, Bool.false_or, Bool.and_false, Bool.and_true, s6, s7, s8, s9, s10, s11, s13, s14, hlt, z0, z0', h3']
          rw [ForK_normal]
          exact ⟨hlt, by simp (disch := first | (simp only [go_sem, Bool.and_self, eq_self]; done) | omega | (simp only [List.length_cons, List.length_nil]; omega)) only [go_sem, ↓reduceIte, Nat.reduceEqDiff, Nat.reduceAdd, Nat.reduceMul, Nat.reduceSub, Int.reduceToNat, Nat.reduceBEq, List.size_toArray, List.length_cons, List.length_nil, Bool.false_and, Bool.true_and, Bool.or_false, Bool.false_or, Bool.and_false, Bool.and_true, s14], by simp (disch := first | (simp only [go_sem, Bool.and_self, eq_self]; done) | omega | (simp only [List.length_cons, List.length_nil]; omega)) only [go_sem, ↓reduceIte, Nat.reduceEqDiff, Nat.reduceAdd, Nat.reduceMul, Nat.reduceSub, Int.reduceToNat, Nat.reduceBEq, List.size_toArray, List.length_cons, List.length_nil, Bool.false_and, Bool.true_and, Bool.or_false, Bool.false_or, Bool.and_false, Bool.and_true, s6], by simp (disch := first | (simp only [go_sem, Bool.and_self, eq_self]; done) | omega | (simp only [List.length_cons, List.length_nil]; omega)) only [go_sem, ↓reduceIte, Nat.reduceEqDiff, Nat.reduceAdd, Nat.reduceMul, Nat.reduceSub, Int.reduceToNat, Nat.reduceBEq, List.size_toArray, List.length_cons, List.length_nil, Bool.false_and, Bool.true_and, Bool.or_false, Bool.false_or, Bool.and_false, Bool.and_true, s7], by simp (disch := first | (simp only [go_sem, Bool.and_self, eq_self]; done) | omega | (simp only [List.length_cons, List.length_nil]; omega)) only [go_sem, ↓reduceIte, Nat.reduceEqDiff, Nat.reduceAdd, Nat.reduceMul, Nat.reduceSub, Int.reduceToNat, Nat.reduceBEq, List.size_toArray, List.length_cons, List.length_nil, Bool.false_and, Bool.true_and, Bool.or_false, Bool.false_or, Bool.and_false, Bool.and_true, s8], by simp (disch := first | (simp only [go_sem, Bool.and_self, eq_self]; done) | omega | (simp only [List.length_cons, List.length_nil]; omega)) only [go_sem, ↓reduceIte, Nat.reduceEqDiff, Nat.reduceAdd, Nat.reduceMul, Nat.reduceSub, Int.reduceToNat, Nat.reduceBEq, List.size_toArray, List.length_cons, List.length_nil, Bool.false_and, Bool.true_and, Bool.or_false, Bool.false_or, Bool.and_false, Bool.and_true, s9], by simp (disch := first | (simp only [go_sem, Bool.and_self, eq_self]; done) | omega | (simp only [List.length_cons, List.length_nil]; omega)) only [go_sem, ↓reduceIte, Nat.reduceEqDiff, Nat.reduceAdd, Nat.reduceMul, Nat.reduceSub, Int.reduceToNat, Nat.reduceBEq, List.size_toArray, List.length_cons, List.length_nil, Bool.false_and, Bool.true_and, Bool.or_false, Bool.false_or, Bool.and_false, Bool.and_true, s10], by simp (disch := first | (simp only [go_sem, Bool.and_self, eq_self]; done) | omega | (simp only [List.length_cons, List.length_nil]; omega)) only [go_sem, ↓reduceIte, Nat.reduceEqDiff, Nat.reduceAdd, Nat.reduceMul, Nat.reduceSub, Int.reduceToNat, Nat.reduceBEq, List.size_toArray, List.length_cons, List.length_nil, Bool.false_and, Bool.true_and, Bool.or_false, Bool.false_or, Bool.and_false, Bool.and_true, s11], rfl, true, by simp (disch := first | (simp only [go_sem, Bool.and_self, eq_self]; done) | omega | (simp only [List.length_cons, List.length_nil]; omega)) only [go_sem, ↓reduceIte, Nat.reduceEqDiff, Nat.reduceAdd, Nat.reduceMul, Nat.reduceSub, Int.reduceToNat, Nat.reduceBEq, List.size_toArray, List.length_cons, List.length_nil, Bool.false_and, Bool.true_and, Bool.or_false, Bool.false_or, Bool.and_false, Bool.and_true], fin true he.symm⟩
        · have he : endB l s i = decide (nth s i = nth l (l.length - 1)) := by simp [endB, h3]
          have h3' : decide (nth s i = nth l 0) = false := by simp [h3]
          simp (disch := first | (simp only [go_sem, Bool.and_self, eq_self]; done) | omega | (simp only [List.length_cons, List.length_nil]; omega)) only [go_sem, ↓reduceIte, Nat.reduceEqDiff, Nat.reduceAdd, Nat.reduceMul, Nat.reduceSub, Int.reduceToNat, Nat.reduceBEq, List.size_toArray, List.length_cons, List.length_nil, Bool.false_and, Bool.true_and, Bool.or_false, Bool.false_or, Bool.and_false, Bool.and_true, s6, s7, s8, s9, s10, s11, s13, s14, hlt, z0, z0', z1, z2, z3, h3']
          rw [ForK_normal]
          exact ⟨hlt, by simp (disch := first | (simp only [go_sem, Bool.and_self, eq_self]; done) | omega | (simp only [List.length_cons, List.length_nil]; omega)) only [go_sem, ↓reduceIte, Nat.reduceEqDiff, Nat.reduceAdd, Nat.reduceMul, Nat.reduceSub, Int.reduceToNat, Nat.reduceBEq, List.size_toArray, List.length_cons, List.length_nil, Bool.false_and, Bool.true_and, Bool.or_false, Bool.false_or, Bool.and_false, Bool.and_true, s14], by simp (disch := first | (simp only [go_sem, Bool.and_self, eq_self]; done) | omega | (simp only [List.length_cons, List.length_nil]; omega)) only [go_sem, ↓reduceIte, Nat.reduceEqDiff, Nat.reduceAdd, Nat.reduceMul, Nat.reduceSub, Int.reduceToNat, Nat.reduceBEq, List.size_toArray, List.length_cons, List.length_nil, Bool.false_and, Bool.true_and, Bool.or_false, Bool.false_or, Bool.and_false, Bool.and_true, s6], by simp (disch := first | (simp only [go_sem, Bool.and_self, eq_self]; done) | omega | (simp only [List.length_cons, List.length_nil]; omega)) only [go_sem, ↓reduceIte, Nat.reduceEqDiff, Nat.reduceAdd, Nat.reduceMul, Nat.reduceSub, Int.reduceToNat, Nat.reduceBEq, List.size_toArray, List.length_cons, List.length_nil, Bool.false_and, Bool.true_and, Bool.or_false, Bool.false_or, Bool.and_false, Bool.and_true, s7], by simp (disch := first | (simp only [go_sem, Bool.and_self, eq_self]; done) | omega | (simp only [List.length_cons, List.length_nil]; omega)) only [go_sem, ↓reduceIte, Nat.reduceEqDiff, Nat.reduceAdd, Nat.reduceMul, Nat.reduceSub, Int.reduceToNat, Nat.reduceBEq, List.size_toArray, List.length_cons, List.length_nil, Bool.false_and, Bool.true_and, Bool.or_false, Bool.false_or, Bool.and_false, Bool.and_true, s8], by simp (disch := first | (simp only [go_sem, Bool.and_self, eq_self]; done) | omega | (simp only [List.length_cons, List.length_nil]; omega)) only [go_sem, ↓reduceIte, Nat.reduceEqDiff, Nat.reduceAdd, Nat.reduceMul, Nat.reduceSub, Int.reduceToNat, Nat.reduceBEq, List.size_toArray, List.length_cons, List.length_nil, Bool.false_and, Bool.true_and, Bool.or_false, Bool.false_or, Bool.and_false, Bool.and_true, s9], by simp (disch := first | (simp only [go_sem, Bool.and_self, eq_self]; done) | omega | (simp only [List.length_cons, List.length_nil]; omega)) only [go_sem, ↓reduceIte, Nat.reduceEqDiff, Nat.reduceAdd, Nat.reduceMul, Nat.reduceSub, Int.reduceToNat, Nat.reduceBEq, List.size_toArray, List.length_cons, List.length_nil, Bool.false_and, Bool.true_and, Bool.or_false, Bool.false_or, Bool.and_false, Bool.and_true, s10], by simp (disch := first | (simp only [go_sem, Bool.and_self, eq_self]; done) | omega | (simp only [List.length_cons, List.length_nil]; omega)) only [go_sem, ↓reduceIte, Nat.reduceEqDiff, Nat.reduceAdd, Nat.reduceMul, Nat.reduceSub, Int.reduceToNat, Nat.reduceBEq, List.size_toArray, List.length_cons, List.length_nil, Bool.false_and, Bool.true_and, Bool.or_false, Bool.false_or, Bool.and_false, Bool.and_true, s11], rfl, _, by simp (disch := first | (simp only [go_sem, Bool.and_self, eq_self]; done) | omega | (simp only [List.length_cons, List.length_nil]; omega)) only [go_sem, ↓reduceIte, Nat.reduceEqDiff, Nat.reduceAdd, Nat.reduceMul, Nat.reduceSub, Int.reduceToNat, Nat.reduceBEq, List.size_toArray, List.length_cons, List.length_nil, Bool.false_and, Bool.true_and, Bool.or_false, Bool.false_or, Bool.and_false, Bool.and_true], fin _ he.symm⟩
  · rintro st h' ⟨s6, s7, s8, s9, s10, s11, rfl, b, s13, hb1, hb2⟩
    cases b with
    | true =>
      obtain ⟨rfl, rfl⟩ := hb1 rfl
      simp (disch := first | (simp only [go_sem, Bool.and_self, eq_self]; done) | omega | (simp only [List.length_cons, List.length_nil]; omega)) only [go_sem, ↓reduceIte, Nat.reduceEqDiff, Nat.reduceAdd, Nat.reduceMul, Nat.reduceSub, Int.reduceToNat, Nat.reduceBEq, List.size_toArray, List.length_cons, List.length_nil, Bool.false_and, Bool.true_and, Bool.or_false, Bool.false_or, Bool.and_false, Bool.and_true, s6, s7, s8, s9, s10, s11, s13, eq_self, decide_true]
    | false =>
      obtain ⟨gn, g1, h1, hs, ht, h2, rfl, rfl⟩ := hb2 rfl
      have k29 := fun h h' K => ConW_num (h := h) (h' := h') (K := K) (lift (by decide) (f29_con p t (Net.of h1) l s (by omega) (by omega) (tB_diff ht) hs)) rfl
      simp (disch := first | (simp only [go_sem, Bool.and_self, eq_self]; done) | omega | (simp only [List.length_cons, List.length_nil]; omega)) only [go_sem, ↓reduceIte, Nat.reduceEqDiff, Nat.reduceAdd, Nat.reduceMul, Nat.reduceSub, Int.reduceToNat, Nat.reduceBEq, List.size_toArray, List.length_cons, List.length_nil, Bool.false_and, Bool.true_and, Bool.or_false, Bool.false_or, Bool.and_false, Bool.and_true, s6, s7, s8, s9, s10, s11, s13, g1, k29, eq_self, decide_true]

theorem f11_con (p t : List (List Int)) (l0 s0 : List Int) (hp : okLL p) (ht : okLL t) (hl0 : l0.length ≤ maxLen) (hs0 : s0.length ≤ maxLen) : Con Try.prog cfgX 11 [.agg [LLI p, LLI t], LI l0, LI s0] (.bool true) := by
  have ml : maxLen = 9223372036854775807 := by decide
  have k16 := fun h h' K => ConW_any (h := h) (h' := h') (K := K) (lift (by decide) (f16_con p t hp ht)) (by unfold netV; split <;> rfl)
  have k17l := fun h h' K => ConW_any (h := h) (h' := h') (K := K) (lift (by decide) (f17_con l0 hl0)) rfl
  have k17s := fun h h' K => ConW_any (h := h) (h' := h') (K := K) (lift (by decide) (f17_con s0 hs0)) rfl
  have hll := listM_len l0
  have hls := listM_len s0
  generalize listM l0 = l at *
  generalize listM s0 = s at *
  have n20 : ¬ (2 : Int) = 0 := by decide
  have z00 : ((0 : Nat) : Int) = 0 := rfl
  have okp := tableM_ok p
  have okt := tableM_ok t
  generalize tableM p = p' at *
  generalize tableM t = t' at *
  have hil : ∀ (h : Hp) (x : List Int), importR h (LI x) = (LI x, h) := fun _ _ => rfl
  have hb : Try.f11.body.getD .skip = withTail 5 (Try.f11.body.getD .skip) (tailN 5 (Try.f11.body.getD .skip)) := rfl
  refine Con_intro Try.func11 rfl okX11 (Nat.le_of_ble_eq_true rfl) rfl ?_
  by_cases hnil : p' = [] ∧ t' = []
  · obtain ⟨rfl, rfl⟩ := hnil
    rw [netV_nil] at k16
    have f40n : Con Try.prog cfg 40 [.agg [.nil, .nil], LI l, LI s] (.tup [.bool false, I 2]) := by
      have k46n : Con Try.prog cfg 46 [.agg [.nil, .nil]] (.tup [.agg [.nil, .nil, I 0], I 2]) := ⟨100, by kernel_rfl⟩
      have kn := fun h h' K => ConW_any (h := h) (h' := h') (K := K) k46n rfl
      have hi : ∀ h : Hp, importR h (.tup [.agg [.nil, .nil, I 0], I 2]) = (.tup [.agg [.nil, .nil, I 0], I 2], h) := fun _ => rfl
      have hs : ∀ h : Hp, sealA h (.agg [.nil, .nil]) = some (.agg [.nil, .nil], h) := fun _ => rfl
      refine Con_intro Try.func40 rfl ok40 (Nat.le_of_ble_eq_true rfl) rfl ?_
      simp only [Try.f40, Option.getD_some, initSt3]
      simp (disch := first | (simp only [go_sem, Bool.and_self, eq_self]; done) | omega | (simp only [List.length_cons, List.length_nil]; omega)) only [go_sem, ↓reduceIte, Nat.reduceEqDiff, Nat.reduceAdd, Nat.reduceMul, Nat.reduceSub, Int.reduceToNat, Nat.reduceBEq, List.size_toArray, List.length_cons, List.length_nil, Bool.false_and, Bool.true_and, Bool.or_false, Bool.false_or, Bool.and_false, Bool.and_true, kn, hi, n20, hs]
    have k40 := fun h h' K => ConW_num (h := h) (h' := h') (K := K) (lift (by decide) f40n) rfl
    have k19 := fun h h' K => ConW_num (h := h) (h' := h') (K := K) (lift (by decide) f19_nil) rfl
    have hi : ∀ h : Hp, importR h (.agg [.nil, .nil]) = (.agg [.nil, .nil], h) := fun _ => rfl
    have hs : ∀ h : Hp, sealA h (.agg [.nil, .nil]) = some (.agg [.nil, .nil], h) := fun _ => rfl
    have tl := fun st h a1 a2 a3 a4 a5 a6 a7 => f11_tail [] [] l s hll hls false true 2 st h a1 a2 a3 a4 a5 a6 a7 (fun _ => ⟨rfl, rfl⟩) (fun h => by cases h)
    rw [hb]
    generalize tailN 5 (Try.f11.body.getD .skip) = T at tl ⊢
    simp only [withTail, Try.f11, Option.getD_some, initSt3]
    simp (disch := first | (simp only [go_sem, Bool.and_self, eq_self]; done) | omega | (simp only [List.length_cons, List.length_nil]; omega)) only [go_sem, ↓reduceIte, Nat.reduceEqDiff, Nat.reduceAdd, Nat.reduceMul, Nat.reduceSub, Int.reduceToNat, Nat.reduceBEq, List.size_toArray, List.length_cons, List.length_nil, Bool.false_and, Bool.true_and, Bool.or_false, Bool.false_or, Bool.and_false, Bool.and_true, k16, k17l, k17s, hi, hil, hs, k40, k19]
    exact tl _ _ (by simp (disch := first | (simp only [go_sem, Bool.and_self, eq_self]; done) | omega | (simp only [List.length_cons, List.length_nil]; omega)) only [go_sem, ↓reduceIte, Nat.reduceEqDiff, Nat.reduceAdd, Nat.reduceMul, Nat.reduceSub, Int.reduceToNat, Nat.reduceBEq, List.size_toArray, List.length_cons, List.length_nil, Bool.false_and, Bool.true_and, Bool.or_false, Bool.false_or, Bool.and_false, Bool.and_true]) (by simp (disch := first | (simp only [go_sem, Bool.and_self, eq_self]; done) | omega | (simp only [List.length_cons, List.length_nil]; omega)) only [go_sem, ↓reduceIte, Nat.reduceEqDiff, Nat.reduceAdd, Nat.reduceMul, Nat.reduceSub, Int.reduceToNat, Nat.reduceBEq, List.size_toArray, List.length_cons, List.length_nil, Bool.false_and, Bool.true_and, Bool.or_false, Bool.false_or, Bool.and_false, Bool.and_true]) (by simp (disch := first | (simp only [go_sem, Bool.and_self, eq_self]; done) | omega | (simp only [List.length_cons, List.length_nil]; omega)) only [go_sem, ↓reduceIte, Nat.reduceEqDiff, Nat.reduceAdd, Nat.reduceMul, Nat.reduceSub, Int.reduceToNat, Nat.reduceBEq, List.size_toArray, List.length_cons, List.length_nil, Bool.false_and, Bool.true_and, Bool.or_false, Bool.false_or, Bool.and_false, Bool.and_true]) (by simp (disch := first | (simp only [go_sem, Bool.and_self, eq_self]; done) | omega | (simp only [List.length_cons, List.length_nil]; omega)) only [go_sem, ↓reduceIte, Nat.reduceEqDiff, Nat.reduceAdd, Nat.reduceMul, Nat.reduceSub, Int.reduceToNat, Nat.reduceBEq, List.size_toArray, List.length_cons, List.length_nil, Bool.false_and, Bool.true_and, Bool.or_false, Bool.false_or, Bool.and_false, Bool.and_true]) (by simp (disch := first | (simp only [go_sem, Bool.and_self, eq_self]; done) | omega | (simp only [List.length_cons, List.length_nil]; omega)) only [go_sem, ↓reduceIte, Nat.reduceEqDiff, Nat.reduceAdd, Nat.reduceMul, Nat.reduceSub, Int.reduceToNat, Nat.reduceBEq, List.size_toArray, List.length_cons, List.length_nil, Bool.false_and, Bool.true_and, Bool.or_false, Bool.false_or, Bool.and_false, Bool.and_true]) (by simp (disch := first | (simp only [go_sem, Bool.and_self, eq_self]; done) | omega | (simp only [List.length_cons, List.length_nil]; omega)) only [go_sem, ↓reduceIte, Nat.reduceEqDiff, Nat.reduceAdd, Nat.reduceMul, Nat.reduceSub, Int.reduceToNat, Nat.reduceBEq, List.size_toArray, List.length_cons, List.length_nil, Bool.false_and, Bool.true_and, Bool.or_false, Bool.false_or, Bool.and_false, Bool.and_true]) (by simp (disch := first | (simp only [go_sem, Bool.and_self, eq_self]; done) | omega | (simp only [List.length_cons, List.length_nil]; omega)) only [go_sem, ↓reduceIte, Nat.reduceEqDiff, Nat.reduceAdd, Nat.reduceMul, Nat.reduceSub, Int.reduceToNat, Nat.reduceBEq, List.size_toArray, List.length_cons, List.length_nil, Bool.false_and, Bool.true_and, Bool.or_false, Bool.false_or, Bool.and_false, Bool.and_true])
  rw [netV_cons hnil] at k16
  have hi : ∀ h : Hp, importR h (.agg [LLI p', LLI t']) = (.agg [LLI p', LLI t'], h) := fun _ => rfl
  have kr := fun h h' K => ConW_num (h := h) (h' := h') (K := K) (lift (by decide) (f19_con p' t' okp okt)) rfl
  have k40 := fun h h' K => ConW_num (h := h) (h' := h') (K := K) (lift (by decide) (f40_con p' t' okp okt l s (by omega) (by omega))) (by unfold actR; split <;> rfl)
  have k26 := fun h h' K => ConW_num (h := h) (h' := h') (K := K) (lift (by decide) (f26_con p'.length s (by omega))) rfl
  -- where it is known to be none
  have none : (netB p' t' && (diffB p'.length s && (tB p' l && (decide (2 ≤ l.length) && (!hasB s (nth l 0) && !hasB s (nth l (l.length - 1))))))) = false → actR p' t' l s = .tup [.bool false, I 2] := actR_no
  have tlb := fun st h a1 a2 a3 a4 a5 a6 a7 => f11_tail p' t' l s hll hls false true 2 st h a1 a2 a3 a4 a5 a6 a7 (fun _ => ⟨rfl, rfl⟩) (fun h => by cases h)
  cases h1 : netB p' t' with
  | false =>
    rw [none (by rw [h1]; rfl)] at k40
    rw [hb]
    generalize tailN 5 (Try.f11.body.getD .skip) = T at tlb ⊢
    simp only [withTail, Try.f11, Option.getD_some, initSt3]
    simp (disch := first | (simp only [go_sem, Bool.and_self, eq_self]; done) | omega | (simp only [List.length_cons, List.length_nil]; omega)) only [go_sem, ↓reduceIte, Nat.reduceEqDiff, Nat.reduceAdd, Nat.reduceMul, Nat.reduceSub, Int.reduceToNat, Nat.reduceBEq, List.size_toArray, List.length_cons, List.length_nil, Bool.false_and, Bool.true_and, Bool.or_false, Bool.false_or, Bool.and_false, Bool.and_true, k16, k17l, k17s, hi, hil, k40, kr, h1]
    exact tlb _ _ (by simp (disch := first | (simp only [go_sem, Bool.and_self, eq_self]; done) | omega | (simp only [List.length_cons, List.length_nil]; omega)) only [go_sem, ↓reduceIte, Nat.reduceEqDiff, Nat.reduceAdd, Nat.reduceMul, Nat.reduceSub, Int.reduceToNat, Nat.reduceBEq, List.size_toArray, List.length_cons, List.length_nil, Bool.false_and, Bool.true_and, Bool.or_false, Bool.false_or, Bool.and_false, Bool.and_true]) (by simp (disch := first | (simp only [go_sem, Bool.and_self, eq_self]; done) | omega | (simp only [List.length_cons, List.length_nil]; omega)) only [go_sem, ↓reduceIte, Nat.reduceEqDiff, Nat.reduceAdd, Nat.reduceMul, Nat.reduceSub, Int.reduceToNat, Nat.reduceBEq, List.size_toArray, List.length_cons, List.length_nil, Bool.false_and, Bool.true_and, Bool.or_false, Bool.false_or, Bool.and_false, Bool.and_true]) (by simp (disch := first | (simp only [go_sem, Bool.and_self, eq_self]; done) | omega | (simp only [List.length_cons, List.length_nil]; omega)) only [go_sem, ↓reduceIte, Nat.reduceEqDiff, Nat.reduceAdd, Nat.reduceMul, Nat.reduceSub, Int.reduceToNat, Nat.reduceBEq, List.size_toArray, List.length_cons, List.length_nil, Bool.false_and, Bool.true_and, Bool.or_false, Bool.false_or, Bool.and_false, Bool.and_true]) (by simp (disch := first | (simp only [go_sem, Bool.and_self, eq_self]; done) | omega | (simp only [List.length_cons, List.length_nil]; omega)) only [go_sem, ↓reduceIte, Nat.reduceEqDiff, Nat.reduceAdd, Nat.reduceMul, Nat.reduceSub, Int.reduceToNat, Nat.reduceBEq, List.size_toArray, List.length_cons, List.length_nil, Bool.false_and, Bool.true_and, Bool.or_false, Bool.false_or, Bool.and_false, Bool.and_true]) (by simp (disch := first | (simp only [go_sem, Bool.and_self, eq_self]; done) | omega | (simp only [List.length_cons, List.length_nil]; omega)) only [go_sem, ↓reduceIte, Nat.reduceEqDiff, Nat.reduceAdd, Nat.reduceMul, Nat.reduceSub, Int.reduceToNat, Nat.reduceBEq, List.size_toArray, List.length_cons, List.length_nil, Bool.false_and, Bool.true_and, Bool.or_false, Bool.false_or, Bool.and_false, Bool.and_true]) (by simp (disch := first | (simp only [go_sem, Bool.and_self, eq_self]; done) | omega | (simp only [List.length_cons, List.length_nil]; omega)) only [go_sem, ↓reduceIte, Nat.reduceEqDiff, Nat.reduceAdd, Nat.reduceMul, Nat.reduceSub, Int.reduceToNat, Nat.reduceBEq, List.size_toArray, List.length_cons, List.length_nil, Bool.false_and, Bool.true_and, Bool.or_false, Bool.false_or, Bool.and_false, Bool.and_true]) (by simp (disch := first | (simp only [go_sem, Bool.and_self, eq_self]; done) | omega | (simp only [List.length_cons, List.length_nil]; omega)) only [go_sem, ↓reduceIte, Nat.reduceEqDiff, Nat.reduceAdd, Nat.reduceMul, Nat.reduceSub, Int.reduceToNat, Nat.reduceBEq, List.size_toArray, List.length_cons, List.length_nil, Bool.false_and, Bool.true_and, Bool.or_false, Bool.false_or, Bool.and_false, Bool.and_true])
  | true =>
  have N := Net.of h1
  cases hs : diffB p'.length s with
  | false =>
    rw [none (by rw [hs]; simp)] at k40
    rw [hb]
    generalize tailN 5 (Try.f11.body.getD .skip) = T at tlb ⊢
    simp only [withTail, Try.f11, Option.getD_some, initSt3]
    simp (disch := first | (simp only [go_sem, Bool.and_self, eq_self]; done) | omega | (simp only [List.length_cons, List.length_nil]; omega)) only [go_sem, ↓reduceIte, Nat.reduceEqDiff, Nat.reduceAdd, Nat.reduceMul, Nat.reduceSub, Int.reduceToNat, Nat.reduceBEq, List.size_toArray, List.length_cons, List.length_nil, Bool.false_and, Bool.true_and, Bool.or_false, Bool.false_or, Bool.and_false, Bool.and_true, k16, k17l, k17s, hi, hil, k40, kr, k26, h1, hs]
    exact tlb _ _ (by simp (disch := first | (simp only [go_sem, Bool.and_self, eq_self]; done) | omega | (simp only [List.length_cons, List.length_nil]; omega)) only [go_sem, ↓reduceIte, Nat.reduceEqDiff, Nat.reduceAdd, Nat.reduceMul, Nat.reduceSub, Int.reduceToNat, Nat.reduceBEq, List.size_toArray, List.length_cons, List.length_nil, Bool.false_and, Bool.true_and, Bool.or_false, Bool.false_or, Bool.and_false, Bool.and_true]) (by simp (disch := first | (simp only [go_sem, Bool.and_self, eq_self]; done) | omega | (simp only [List.length_cons, List.length_nil]; omega)) only [go_sem, ↓reduceIte, Nat.reduceEqDiff, Nat.reduceAdd, Nat.reduceMul, Nat.reduceSub, Int.reduceToNat, Nat.reduceBEq, List.size_toArray, List.length_cons, List.length_nil, Bool.false_and, Bool.true_and, Bool.or_false, Bool.false_or, Bool.and_false, Bool.and_true]) (by simp (disch := first | (simp only [go_sem, Bool.and_self, eq_self]; done) | omega | (simp only [List.length_cons, List.length_nil]; omega)) only [go_sem, ↓reduceIte, Nat.reduceEqDiff, Nat.reduceAdd, Nat.reduceMul, Nat.reduceSub, Int.reduceToNat, Nat.reduceBEq, List.size_toArray, List.length_cons, List.length_nil, Bool.false_and, Bool.true_and, Bool.or_false, Bool.false_or, Bool.and_false, Bool.and_true]) (by simp (disch := first | (simp only [go_sem, Bool.and_self, eq_self]; done) | omega | (simp only [List.length_cons, List.length_nil]; omega)) only [go_sem, ↓reduceIte, Nat.reduceEqDiff, Nat.reduceAdd, Nat.reduceMul, Nat.reduceSub, Int.reduceToNat, Nat.reduceBEq, List.size_toArray, List.length_cons, List.length_nil, Bool.false_and, Bool.true_and, Bool.or_false, Bool.false_or, Bool.and_false, Bool.and_true]) (by simp (disch := first | (simp only [go_sem, Bool.and_self, eq_self]; done) | omega | (simp only [List.length_cons, List.length_nil]; omega)) only [go_sem, ↓reduceIte, Nat.reduceEqDiff, Nat.reduceAdd, Nat.reduceMul, Nat.reduceSub, Int.reduceToNat, Nat.reduceBEq, List.size_toArray, List.length_cons, List.length_nil, Bool.false_and, Bool.true_and, Bool.or_false, Bool.false_or, Bool.and_false, Bool.and_true]) (by simp (disch := first | (simp only [go_sem, Bool.and_self, eq_self]; done) | omega | (simp only [List.length_cons, List.length_nil]; omega)) only [go_sem, ↓reduceIte, Nat.reduceEqDiff, Nat.reduceAdd, Nat.reduceMul, Nat.reduceSub, Int.reduceToNat, Nat.reduceBEq, List.size_toArray, List.length_cons, List.length_nil, Bool.false_and, Bool.true_and, Bool.or_false, Bool.false_or, Bool.and_false, Bool.and_true]) (by simp (disch := first | (simp only [go_sem, Bool.and_self, eq_self]; done) | omega | (simp only [List.length_cons, List.length_nil]; omega)) only [go_sem, ↓reduceIte, Nat.reduceEqDiff, Nat.reduceAdd, Nat.reduceMul, Nat.reduceSub, Int.reduceToNat, Nat.reduceBEq, List.size_toArray, List.length_cons, List.length_nil, Bool.false_and, Bool.true_and, Bool.or_false, Bool.false_or, Bool.and_false, Bool.and_true])
  | true =>
  by_cases h2 : (l.length : Int) < 2
  · have h2' : decide (2 ≤ l.length) = false := by simp; omega
    rw [none (by rw [h2']; simp)] at k40
    rw [hb]
    generalize tailN 5 (Try.f11.body.getD .skip) = T at tlb ⊢
    simp only [withTail, Try.f11, Option.getD_some, initSt3]
    simp (disch := first | (simp only [go_sem, Bool.and_self, eq_self]; done) | omega | (simp only [List.length_cons, List.length_nil]; omega)) only [go_sem, ↓reduceIte, Nat.reduceEqDiff, Nat.reduceAdd, Nat.reduceMul, Nat.reduceSub, Int.reduceToNat, Nat.reduceBEq, List.size_toArray, List.length_cons, List.length_nil, Bool.false_and, Bool.true_and, Bool.or_false, Bool.false_or, Bool.and_false, Bool.and_true, k16, k17l, k17s, hi, hil, k40, kr, k26, h1, hs, h2]
    exact tlb _ _ (by simp (disch := first | (simp only [go_sem, Bool.and_self, eq_self]; done) | omega | (simp only [List.length_cons, List.length_nil]; omega)) only [go_sem, ↓reduceIte, Nat.reduceEqDiff, Nat.reduceAdd, Nat.reduceMul, Nat.reduceSub, Int.reduceToNat, Nat.reduceBEq, List.size_toArray, List.length_cons, List.length_nil, Bool.false_and, Bool.true_and, Bool.or_false, Bool.false_or, Bool.and_false, Bool.and_true]) (by simp (disch := first | (simp only [go_sem, Bool.and_self, eq_self]; done) | omega | (simp only [List.length_cons, List.length_nil]; omega)) only [go_sem, ↓reduceIte, Nat.reduceEqDiff, Nat.reduceAdd, Nat.reduceMul, Nat.reduceSub, Int.reduceToNat, Nat.reduceBEq, List.size_toArray, List.length_cons, List.length_nil, Bool.false_and, Bool.true_and, Bool.or_false, Bool.false_or, Bool.and_false, Bool.and_true]) (by simp (disch := first | (simp only [go_sem, Bool.and_self, eq_self]; done) | omega | (simp only [List.length_cons, List.length_nil]; omega)) only [go_sem, ↓reduceIte, Nat.reduceEqDiff, Nat.reduceAdd, Nat.reduceMul, Nat.reduceSub, Int.reduceToNat, Nat.reduceBEq, List.size_toArray, List.length_cons, List.length_nil, Bool.false_and, Bool.true_and, Bool.or_false, Bool.false_or, Bool.and_false, Bool.and_true]) (by simp (disch := first | (simp only [go_sem, Bool.and_self, eq_self]; done) | omega | (simp only [List.length_cons, List.length_nil]; omega)) only [go_sem, ↓reduceIte, Nat.reduceEqDiff, Nat.reduceAdd, Nat.reduceMul, Nat.reduceSub, Int.reduceToNat, Nat.reduceBEq, List.size_toArray, List.length_cons, List.length_nil, Bool.false_and, Bool.true_and, Bool.or_false, Bool.false_or, Bool.and_false, Bool.and_true]) (by simp (disch := first | (simp only [go_sem, Bool.and_self, eq_self]; done) | omega | (simp only [List.length_cons, List.length_nil]; omega)) only [go_sem, ↓reduceIte, Nat.reduceEqDiff, Nat.reduceAdd, Nat.reduceMul, Nat.reduceSub, Int.reduceToNat, Nat.reduceBEq, List.size_toArray, List.length_cons, List.length_nil, Bool.false_and, Bool.true_and, Bool.or_false, Bool.false_or, Bool.and_false, Bool.and_true]) (by simp (disch := first | (simp only [go_sem, Bool.and_self, eq_self]; done) | omega | (simp only [List.length_cons, List.length_nil]; omega)) only [go_sem, ↓reduceIte, Nat.reduceEqDiff, Nat.reduceAdd, Nat.reduceMul, Nat.reduceSub, Int.reduceToNat, Nat.reduceBEq, List.size_toArray, List.length_cons, List.length_nil, Bool.false_and, Bool.true_and, Bool.or_false, Bool.false_or, Bool.and_false, Bool.and_true]) (by simp (disch := first | (simp only [go_sem, Bool.and_self, eq_self]; done) | omega | (simp only [List.length_cons, List.length_nil]; omega)) only [go_sem, ↓reduceIte, Nat.reduceEqDiff, Nat.reduceAdd, Nat.reduceMul, Nat.reduceSub, Int.reduceToNat, Nat.reduceBEq, List.size_toArray, List.length_cons, List.length_nil, Bool.false_and, Bool.true_and, Bool.or_false, Bool.false_or, Bool.and_false, Bool.and_true])
  have k28 := fun h h' K => ConW_num (h := h) (h' := h') (K := K) (lift (by decide) (f28_con p' t' N l (by omega))) rfl
  cases h3 : tB p' l with
  | false =>
    rw [none (by rw [h3]; simp)] at k40
    rw [hb]
    generalize tailN 5 (Try.f11.body.getD .skip) = T at tlb ⊢
    simp only [withTail, Try.f11, Option.getD_some, initSt3]
    simp (disch := first | (simp only [go_sem, Bool.and_self, eq_self]; done) | omega | (simp only [List.length_cons, List.length_nil]; omega)) only [go_sem, ↓reduceIte, Nat.reduceEqDiff, Nat.reduceAdd, Nat.reduceMul, Nat.reduceSub, Int.reduceToNat, Nat.reduceBEq, List.size_toArray, List.length_cons, List.length_nil, Bool.false_and, Bool.true_and, Bool.or_false, Bool.false_or, Bool.and_false, Bool.and_true, k16, k17l, k17s, hi, hil, k40, kr, k26, k28, h1, hs, h2, h3]
    exact tlb _ _ (by simp (disch := first | (simp only [go_sem, Bool.and_self, eq_self]; done) | omega | (simp only [List.length_cons, List.length_nil]; omega)) only [go_sem, ↓reduceIte, Nat.reduceEqDiff, Nat.reduceAdd, Nat.reduceMul, Nat.reduceSub, Int.reduceToNat, Nat.reduceBEq, List.size_toArray, List.length_cons, List.length_nil, Bool.false_and, Bool.true_and, Bool.or_false, Bool.false_or, Bool.and_false, Bool.and_true]) (by simp (disch := first | (simp only [go_sem, Bool.and_self, eq_self]; done) | omega | (simp only [List.length_cons, List.length_nil]; omega)) only [go_sem, ↓reduceIte, Nat.reduceEqDiff, Nat.reduceAdd, Nat.reduceMul, Nat.reduceSub, Int.reduceToNat, Nat.reduceBEq, List.size_toArray, List.length_cons, List.length_nil, Bool.false_and, Bool.true_and, Bool.or_false, Bool.false_or, Bool.and_false, Bool.and_true]) (by simp (disch := first | (simp only [go_sem, Bool.and_self, eq_self]; done) | omega | (simp only [List.length_cons, List.length_nil]; omega)) only [go_sem, ↓reduceIte, Nat.reduceEqDiff, Nat.reduceAdd, Nat.reduceMul, Nat.reduceSub, Int.reduceToNat, Nat.reduceBEq, List.size_toArray, List.length_cons, List.length_nil, Bool.false_and, Bool.true_and, Bool.or_false, Bool.false_or, Bool.and_false, Bool.and_true]) (by simp (disch := first | (simp only [go_sem, Bool.and_self, eq_self]; done) | omega | (simp only [List.length_cons, List.length_nil]; omega)) only [go_sem, ↓reduceIte, Nat.reduceEqDiff, Nat.reduceAdd, Nat.reduceMul, Nat.reduceSub, Int.reduceToNat, Nat.reduceBEq, List.size_toArray, List.length_cons, List.length_nil, Bool.false_and, Bool.true_and, Bool.or_false, Bool.false_or, Bool.and_false, Bool.and_true]) (by simp (disch := first | (simp only [go_sem, Bool.and_self, eq_self]; done) | omega | (simp only [List.length_cons, List.length_nil]; omega)) only [go_sem, ↓reduceIte, Nat.reduceEqDiff, Nat.reduceAdd, Nat.reduceMul, Nat.reduceSub, Int.reduceToNat, Nat.reduceBEq, List.size_toArray, List.length_cons, List.length_nil, Bool.false_and, Bool.true_and, Bool.or_false, Bool.false_or, Bool.and_false, Bool.and_true]) (by simp (disch := first | (simp only [go_sem, Bool.and_self, eq_self]; done) | omega | (simp only [List.length_cons, List.length_nil]; omega)) only [go_sem, ↓reduceIte, Nat.reduceEqDiff, Nat.reduceAdd, Nat.reduceMul, Nat.reduceSub, Int.reduceToNat, Nat.reduceBEq, List.size_toArray, List.length_cons, List.length_nil, Bool.false_and, Bool.true_and, Bool.or_false, Bool.false_or, Bool.and_false, Bool.and_true]) (by simp (disch := first | (simp only [go_sem, Bool.and_self, eq_self]; done) | omega | (simp only [List.length_cons, List.length_nil]; omega)) only [go_sem, ↓reduceIte, Nat.reduceEqDiff, Nat.reduceAdd, Nat.reduceMul, Nat.reduceSub, Int.reduceToNat, Nat.reduceBEq, List.size_toArray, List.length_cons, List.length_nil, Bool.false_and, Bool.true_and, Bool.or_false, Bool.false_or, Bool.and_false, Bool.and_true])
  | true =>
    obtain ⟨is, e, he⟩ : ∃ (is : Bool) (e : Int), actR p' t' l s = .tup [.bool is, I e] := by
      unfold actR; split
      · exact ⟨_, _, rfl⟩
      · exact ⟨_, _, rfl⟩
    rw [he] at k40
    have tl := fun st h a1 a2 a3 a4 a5 a6 a7 g1 g2 => f11_tail p' t' l s hll hls is false e st h a1 a2 a3 a4 a5 a6 a7 (fun h => by cases h) (fun _ => ⟨g1, g2, h1, hs, h3, by omega, he⟩)
    rw [hb]
    generalize tailN 5 (Try.f11.body.getD .skip) = T at tl ⊢
    simp only [withTail, Try.f11, Option.getD_some, initSt3]
    simp (disch := first | (simp only [go_sem, Bool.and_self, eq_self]; done) | omega | (simp only [List.length_cons, List.length_nil]; omega)) only [go_sem, ↓reduceIte, Nat.reduceEqDiff, Nat.reduceAdd, Nat.reduceMul, Nat.reduceSub, Int.reduceToNat, Nat.reduceBEq, List.size_toArray, List.length_cons, List.length_nil, Bool.false_and, Bool.true_and, Bool.or_false, Bool.false_or, Bool.and_false, Bool.and_true, k16, k17l, k17s, hi, hil, k40, kr, k26, k28, h1, hs, h2, h3]
    exact tl _ _ (by simp (disch := first | (simp only [go_sem, Bool.and_self, eq_self]; done) | omega | (simp only [List.length_cons, List.length_nil]; omega)) only [go_sem, ↓reduceIte, Nat.reduceEqDiff, Nat.reduceAdd, Nat.reduceMul, Nat.reduceSub, Int.reduceToNat, Nat.reduceBEq, List.size_toArray, List.length_cons, List.length_nil, Bool.false_and, Bool.true_and, Bool.or_false, Bool.false_or, Bool.and_false, Bool.and_true]) (by simp (disch := first | (simp only [go_sem, Bool.and_self, eq_self]; done) | omega | (simp only [List.length_cons, List.length_nil]; omega)) only [go_sem, ↓reduceIte, Nat.reduceEqDiff, Nat.reduceAdd, Nat.reduceMul, Nat.reduceSub, Int.reduceToNat, Nat.reduceBEq, List.size_toArray, List.length_cons, List.length_nil, Bool.false_and, Bool.true_and, Bool.or_false, Bool.false_or, Bool.and_false, Bool.and_true]) (by simp (disch := first | (simp only [go_sem, Bool.and_self, eq_self]; done) | omega | (simp only [List.length_cons, List.length_nil]; omega)) only [go_sem, ↓reduceIte, Nat.reduceEqDiff, Nat.reduceAdd, Nat.reduceMul, Nat.reduceSub, Int.reduceToNat, Nat.reduceBEq, List.size_toArray, List.length_cons, List.length_nil, Bool.false_and, Bool.true_and, Bool.or_false, Bool.false_or, Bool.and_false, Bool.and_true]) (by simp (disch := first | (simp only [go_sem, Bool.and_self, eq_self]; done) | omega | (simp only [List.length_cons, List.length_nil]; omega)) only [go_sem, ↓reduceIte, Nat.reduceEqDiff, Nat.reduceAdd, Nat.reduceMul, Nat.reduceSub, Int.reduceToNat, Nat.reduceBEq, List.size_toArray, List.length_cons, List.length_nil, Bool.false_and, Bool.true_and, Bool.or_false, Bool.false_or, Bool.and_false, Bool.and_true]) (by simp (disch := first | (simp only [go_sem, Bool.and_self, eq_self]; done) | omega | (simp only [List.length_cons, List.length_nil]; omega)) only [go_sem, ↓reduceIte, Nat.reduceEqDiff, Nat.reduceAdd, Nat.reduceMul, Nat.reduceSub, Int.reduceToNat, Nat.reduceBEq, List.size_toArray, List.length_cons, List.length_nil, Bool.false_and, Bool.true_and, Bool.or_false, Bool.false_or, Bool.and_false, Bool.and_true]) (by simp (disch := first | (simp only [go_sem, Bool.and_self, eq_self]; done) | omega | (simp only [List.length_cons, List.length_nil]; omega)) only [go_sem, ↓reduceIte, Nat.reduceEqDiff, Nat.reduceAdd, Nat.reduceMul, Nat.reduceSub, Int.reduceToNat, Nat.reduceBEq, List.size_toArray, List.length_cons, List.length_nil, Bool.false_and, Bool.true_and, Bool.or_false, Bool.false_or, Bool.and_false, Bool.and_true]) (by simp (disch := first | (simp only [go_sem, Bool.and_self, eq_self]; done) | omega | (simp only [List.length_cons, List.length_nil]; omega)) only [go_sem, ↓reduceIte, Nat.reduceEqDiff, Nat.reduceAdd, Nat.reduceMul, Nat.reduceSub, Int.reduceToNat, Nat.reduceBEq, List.size_toArray, List.length_cons, List.length_nil, Bool.false_and, Bool.true_and, Bool.or_false, Bool.false_or, Bool.and_false, Bool.and_true]) (by simp (disch := first | (simp only [go_sem, Bool.and_self, eq_self]; done) | omega | (simp only [List.length_cons, List.length_nil]; omega)) only [go_sem, ↓reduceIte, Nat.reduceEqDiff, Nat.reduceAdd, Nat.reduceMul, Nat.reduceSub, Int.reduceToNat, Nat.reduceBEq, List.size_toArray, List.length_cons, List.length_nil, Bool.false_and, Bool.true_and, Bool.or_false, Bool.false_or, Bool.and_false, Bool.and_true]; decide) (by simp (disch := first | (simp only [go_sem, Bool.and_self, eq_self]; done) | omega | (simp only [List.length_cons, List.length_nil]; omega)) only [go_sem, ↓reduceIte, Nat.reduceEqDiff, Nat.reduceAdd, Nat.reduceMul, Nat.reduceSub, Int.reduceToNat, Nat.reduceBEq, List.size_toArray, List.length_cons, List.length_nil, Bool.false_and, Bool.true_and, Bool.or_false, Bool.false_or, Bool.and_false, Bool.and_true])

end Go.Proofs.Ytpkakapbepkfdaa
