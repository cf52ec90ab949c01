/-
  The program's 'options', whole.
-/
import Derived.Test.YtkjdnnedncomgaaL5Z
set_option linter.unusedVariables false
set_option linter.unusedSimpArgs false
set_option maxRecDepth 10000
namespace Go.Proofs.Ytkjdnnedncomgaa
open Go Go.Am

variable {h h' : Hp} {K : AV → Hp → Prop}

/-- All different sets that one chamber can keep apart, each with its first colouring. -/
def accF (a : List (List Int)) (d : Nat) : List (Nat × List Int) := (lv d a.length [] 0).foldl (addC a) []
/-- No other set holds all of it. -/
def keepB (acc : List (Nat × List Int)) (p : Nat × List Int) : Bool := !acc.any fun q => decide (p.1 ≠ q.1) && decide (Sub p.1 q.1)
def optF (a : List (List Int)) (d : Nat) : List (Nat × List Int) := (accF a d).filter (keepB (accF a d))

theorem lv_dep {d : Nat} : ∀ (m : Nat) (path : List Int) (used : Nat), Dep path path.length d → used ≤ d → ∀ x ∈ lv d m path used, x.length = path.length + m ∧ Dep x x.length d := by
  intro m
  induction m with
  | zero => intro path used hp hu x hx; simp [lv] at hx; subst hx; exact ⟨rfl, hp⟩
  | succ m ih =>
    intro path used hp hu x hx
    rw [lv, List.mem_flatMap] at hx
    obtain ⟨i, hi, hx⟩ := hx
    have hi := List.mem_range.1 hi
    have := ih _ _ (by
      intro j hj
      rw [List.length_append, List.length_singleton] at hj
      rcases Nat.lt_or_ge j path.length with h1 | h1
      · rw [nth_append_left _ _ _ h1]; exact hp j h1
      · have : j = path.length := by omega
        subst this
        rw [nth_append_last]; omega) (by omega) x hx
    rw [List.length_append, List.length_singleton] at this
    exact ⟨by omega, this.2⟩
theorem accF_ok (a : List (List Int)) (d : Nat) : AccOk a d (accF a d) := by
  have : ∀ (l : List (List Int)) acc, AccOk a d acc → (∀ x ∈ l, Dep x a.length d) → AccOk a d (l.foldl (addC a) acc) := by
    intro l
    induction l with
    | nil => intro acc h _; exact h
    | cons x l ih => intro acc h hx; exact ih _ (h.add (hx x (by simp))) fun y hy => hx y (by simp [hy])
  refine this _ _ ⟨by simp, by simp, by simp⟩ fun x hx => ?_
  have := lv_dep (d := d) a.length [] 0 (fun i hi => by simp at hi) (by omega) x hx
  simp only [List.length_nil, Nat.zero_add] at this
  have h2 := this.2
  rwa [this.1] at h2
theorem accF_len {a : List (List Int)} (f : Pl a) {d : Nat} (hd : d ≤ 4) : (accF a d).length ≤ 4096 := by
  have h1 := addC_len a (lv d a.length [] 0) []
  have h2 := lv_len d a.length [] 0
  have h3 : d ^ a.length ≤ 4 ^ 6 := Nat.le_trans (Nat.pow_le_pow_left hd _) (Nat.pow_le_pow_right (by decide) f.keys.2)
  have h4 : 4 ^ 6 = 4096 := by decide
  unfold accF
  simp only [List.length_nil] at h1
  omega
theorem acc_lt {a : List (List Int)} (f : Pl a) {d : Nat} {p : Nat × List Int} (hp : p ∈ accF a d) : p.1 < 2 ^ 36 := by
  rw [(accF_ok a d).eq p hp]; exact blk_lt f _

theorem build85 (n : Int) (x : List Int) : buildB Try.prog (some (.struct #[{ name := "pairs", type := 80, offset := 0, embedded := true, tag := "", pkgPath := "turndown/locks", byteOffset := 0 }, { name := "colouring", type := 69, offset := 1, embedded := true, tag := "", pkgPath := "turndown/locks", byteOffset := 8 }])) (some (.agg [I 0, I 0, I 0, I 0, I 0, I 0, I 0])) [(0, I n), (1, .agg (eC x))] = some (.agg (I n :: eC x)) := by
  simp [buildB, isz80, isz69, fillA, setL, AV.cells, AV.isCell, eC_eq]

theorem f52_con {a : List (List Int)} (f : Pl a) {d : Nat} (hd : 1 ≤ d ∧ d ≤ 4) : Con Try.prog cfg 52 [LLI a, I d] (L eO (optF a d)) := by
  have hk := f.keys
  have hal := fun h : Hp => allocB_row (f := eC) (h := h) []
  refine Con_intro Try.func52 rfl ok52 (Nat.le_of_ble_eq_true rfl) rfl ?_
  simp only [Try.f52, Option.getD_some, initSt2]
  simp (disch := first | (simp only [go_sem, Bool.and_self, eq_self]; done) | omega | (simp only [List.length_cons, List.length_nil]; omega)) only [go_sem, ↓reduceIte, Nat.reduceEqDiff, Nat.reduceAdd, Nat.reduceMul, Nat.reduceSub, Int.reduceToNat]
  generalize hH : (((((((((Hp.empty.alloc (.cells false false [LLI a])).alloc (.cells false false [I d])).alloc (.mp [])).alloc (.cells false false [.nilmp])).put 3 (some (.cells false false [.mp 2]))).alloc (.cells false false [.nil])).alloc (.cells false false [I 0, I 0, I 0, I 0, I 0, I 0])).alloc (.cells false false [.nilfn])).put 6 (some (.cells false false [.fn 57 [.ptr 0 0, .ptr 5 0, .ptr 3 0, .ptr 4 0, .ptr 1 0, .ptr 6 0]]))) = H
  have inv0 : Inv a d H [] [0, 0, 0, 0, 0, 0] := by
    refine ⟨by rw [← hH]; simp (disch := first | (simp only [go_sem, Bool.and_self, eq_self]; done) | omega | (simp only [List.length_cons, List.length_nil]; omega)) only [go_sem, ↓reduceIte, Nat.reduceEqDiff, Nat.reduceAdd, Nat.reduceMul, Nat.reduceSub, Int.reduceToNat, Nat.le_refl], ?_, ?_, ?_, ?_, ⟨.nil, ?_, .inl ⟨rfl, rfl⟩, fun _ _ _ _ h => by cases h⟩, ?_, ?_, rfl, ⟨by simp, by simp, by simp⟩⟩
    all_goals (rw [← hH]; first | (simp (disch := first | (simp only [go_sem, Bool.and_self, eq_self]; done) | omega | (simp only [List.length_cons, List.length_nil]; omega)) only [go_sem, ↓reduceIte, Nat.reduceEqDiff, Nat.reduceAdd, Nat.reduceMul, Nat.reduceSub, Int.reduceToNat]; done) | (simp (disch := first | (simp only [go_sem, Bool.and_self, eq_self]; done) | omega | (simp only [List.length_cons, List.length_nil]; omega)) only [go_sem, ↓reduceIte, Nat.reduceEqDiff, Nat.reduceAdd, Nat.reduceMul, Nat.reduceSub, Int.reduceToNat]; rfl))
  have hcap := lv_len d a.length [] 0
  have h3 : d ^ a.length ≤ 4 ^ 6 := Nat.le_trans (Nat.pow_le_pow_left hd.2 _) (Nat.pow_le_pow_right (by decide) hk.2)
  have h4 : 4 ^ 6 = 4096 := by decide
  obtain ⟨h2, xs2, hS, inv2, _, _⟩ := f57_shr f hd a.length 0 [] 0 [] [0, 0, 0, 0, 0, 0] H (by omega) rfl (fun i hi => by omega) (by omega) (fun i hi => by omega) (fun i hi => by
    rcases Nat.lt_or_ge i 6 with h | h
    · have : i = 0 ∨ i = 1 ∨ i = 2 ∨ i = 3 ∨ i = 4 ∨ i = 5 := by omega
      rcases this with rfl | rfl | rfl | rfl | rfl | rfl <;> rfl
    · simp [nth, List.getElem?_eq_none (show ([0, 0, 0, 0, 0, 0] : List Int).length ≤ i by simp; omega)]) inv0 (by rw [List.length_nil]; omega)
  have hS' : Shr Try.prog cfg 57 [I 0, I 0, .ptr 0 0, .ptr 5 0, .ptr 3 0, .ptr 4 0, .ptr 1 0, .ptr 6 0] H (.tup []) h2 := hS
  have hc := fun K => CallW_shr (K := K) 57 _ shr57 hS'
  obtain ⟨v, b4, how, hv⟩ := inv2.b4
  have hok := accF_ok a d
  have hacl := accF_len f hd.2
  have e : (lv d a.length [] 0).foldl (addC a) [] = accF a d := rfl
  rw [e] at inv2 how
  have hll : (lsOf (accF a d)).length = (accF a d).length := by simp [lsOf]
  have hlen := fun g lim => how.lenB 80 g lim
  rw [hll] at hlen
  simp (disch := first | (simp only [go_sem, Bool.and_self, eq_self]; done) | omega | (simp only [List.length_cons, List.length_nil]; omega)) only [go_sem, ↓reduceIte, Nat.reduceEqDiff, Nat.reduceAdd, Nat.reduceMul, Nat.reduceSub, Int.reduceToNat, hc, b4, hlen]
  refine WP_for 20 (accF a d).length (fun i st h => st 5 = .ptr 3 0 ∧ st 6 = .ptr 4 0 ∧ st 18 = v ∧ st 19 = I (accF a d).length ∧ 7 ≤ h.nx ∧ h.bl 2 = some (.mp (esOf (accF a d))) ∧ h.bl 3 = some (.cells false false [.mp 2]) ∧ h.bl 4 = some (.cells false false [v]) ∧ Own (e1 I) 1 h v (lsOf (accF a d)) ∧ ∃ w, st 9 = w ∧ (∀ id off n sz, w = .sl id off n sz → 7 ≤ id) ∧ Own eO 7 h w (((accF a d).take i).filter (keepB (accF a d))) ∧ Dis w v)
    (by simp (disch := first | (simp only [go_sem, Bool.and_self, eq_self]; done) | omega | (simp only [List.length_cons, List.length_nil]; omega)) only [go_sem, ↓reduceIte, Nat.reduceEqDiff, Nat.reduceAdd, Nat.reduceMul, Nat.reduceSub, Int.reduceToNat]) ⟨by simp (disch := first | (simp only [go_sem, Bool.and_self, eq_self]; done) | omega | (simp only [List.length_cons, List.length_nil]; omega)) only [go_sem, ↓reduceIte, Nat.reduceEqDiff, Nat.reduceAdd, Nat.reduceMul, Nat.reduceSub, Int.reduceToNat], by simp (disch := first | (simp only [go_sem, Bool.and_self, eq_self]; done) | omega | (simp only [List.length_cons, List.length_nil]; omega)) only [go_sem, ↓reduceIte, Nat.reduceEqDiff, Nat.reduceAdd, Nat.reduceMul, Nat.reduceSub, Int.reduceToNat], by simp (disch := first | (simp only [go_sem, Bool.and_self, eq_self]; done) | omega | (simp only [List.length_cons, List.length_nil]; omega)) only [go_sem, ↓reduceIte, Nat.reduceEqDiff, Nat.reduceAdd, Nat.reduceMul, Nat.reduceSub, Int.reduceToNat], by simp (disch := first | (simp only [go_sem, Bool.and_self, eq_self]; done) | omega | (simp only [List.length_cons, List.length_nil]; omega)) only [go_sem, ↓reduceIte, Nat.reduceEqDiff, Nat.reduceAdd, Nat.reduceMul, Nat.reduceSub, Int.reduceToNat], inv2.nx, inv2.b2, inv2.b3, b4, how, .nil, by simp (disch := first | (simp only [go_sem, Bool.and_self, eq_self]; done) | omega | (simp only [List.length_cons, List.length_nil]; omega)) only [go_sem, ↓reduceIte, Nat.reduceEqDiff, Nat.reduceAdd, Nat.reduceMul, Nat.reduceSub, Int.reduceToNat], (fun _ _ _ _ h => by cases h), .inl ⟨rfl, by simp⟩, Dis.nil_l _⟩ ?_
  rintro i st h hi s20 ⟨s5, s6, s18, s19, hnx, b2, b3, b4, how, w, s9, hw, how9, hdis⟩
  by_cases hlt : i < (accF a d).length
  case neg =>
    have hie : i = (accF a d).length := by omega
    subst hie
    rw [List.take_length] at how9
    simp (disch := first | (simp only [go_sem, Bool.and_self, eq_self]; done) | omega | (simp only [List.length_cons, List.length_nil]; omega)) only [go_sem, ↓reduceIte, Nat.reduceEqDiff, Nat.reduceAdd, Nat.reduceMul, Nat.reduceSub, Int.reduceToNat, s5, s6, s18, s19, s20, s9, hlt]
    exact export_Own (f := eO) 78 how9
  obtain ⟨id, hve, hid, hbl⟩ := how.sl (by omega)
  rw [hll] at hve
  subst hve
  have hfl := flat_get I (lsOf (accF a d)) i (by omega)
  have hls : ∀ j, j < (accF a d).length → nth (lsOf (accF a d)) j = ((nth (accF a d) j).1 : Int) := by
    intro j hj
    simp [lsOf, nth, hj]
  rw [hls i hlt] at hfl
  have hmem := nth_mem hlt
  generalize hp : nth (accF a d) i = p at *
  have hp36 := acc_lt f hmem
  have hid7 : 7 ≤ id := hv _ _ _ _ rfl
  simp (disch := first | (simp only [go_sem, Bool.and_self, eq_self]; done) | omega | (simp only [List.length_cons, List.length_nil]; omega)) only [go_sem, ↓reduceIte, Nat.reduceEqDiff, Nat.reduceAdd, Nat.reduceMul, Nat.reduceSub, Int.reduceToNat, s5, s6, s18, s19, s20, s9, hlt, hbl, hfl, b4]
  have htake : (accF a d).take (i + 1) = (accF a d).take i ++ [p] := by
    rw [List.take_add_one, nth_get hlt, hp]; rfl
  refine WP_cut (fun st g => g = h ∧ st 5 = .ptr 3 0 ∧ st 6 = .ptr 4 0 ∧ st 18 = .sl id 0 (accF a d).length 1 ∧ st 19 = I (accF a d).length ∧ st 20 = I i ∧ st 9 = w ∧ st 11 = I p.1 ∧ keepB (accF a d) p = true) ?_ ?_
  · refine WP_for 26 (accF a d).length (fun j st g => g = h ∧ st 5 = .ptr 3 0 ∧ st 6 = .ptr 4 0 ∧ st 18 = .sl id 0 (accF a d).length 1 ∧ st 19 = I (accF a d).length ∧ st 20 = I i ∧ st 9 = w ∧ st 11 = I p.1 ∧ st 24 = .sl id 0 (accF a d).length 1 ∧ st 25 = I (accF a d).length ∧ ∀ j', j' < j → ¬ (p.1 ≠ (nth (accF a d) j').1 ∧ Sub p.1 (nth (accF a d) j').1))
      (by simp (disch := first | (simp only [go_sem, Bool.and_self, eq_self]; done) | omega | (simp only [List.length_cons, List.length_nil]; omega)) only [go_sem, ↓reduceIte, Nat.reduceEqDiff, Nat.reduceAdd, Nat.reduceMul, Nat.reduceSub, Int.reduceToNat]) ⟨rfl, by simp (disch := first | (simp only [go_sem, Bool.and_self, eq_self]; done) | omega | (simp only [List.length_cons, List.length_nil]; omega)) only [go_sem, ↓reduceIte, Nat.reduceEqDiff, Nat.reduceAdd, Nat.reduceMul, Nat.reduceSub, Int.reduceToNat, s5, s6, s18, s19, s20, s9], by simp (disch := first | (simp only [go_sem, Bool.and_self, eq_self]; done) | omega | (simp only [List.length_cons, List.length_nil]; omega)) only [go_sem, ↓reduceIte, Nat.reduceEqDiff, Nat.reduceAdd, Nat.reduceMul, Nat.reduceSub, Int.reduceToNat, s5, s6, s18, s19, s20, s9], by simp (disch := first | (simp only [go_sem, Bool.and_self, eq_self]; done) | omega | (simp only [List.length_cons, List.length_nil]; omega)) only [go_sem, ↓reduceIte, Nat.reduceEqDiff, Nat.reduceAdd, Nat.reduceMul, Nat.reduceSub, Int.reduceToNat, s5, s6, s18, s19, s20, s9], by simp (disch := first | (simp only [go_sem, Bool.and_self, eq_self]; done) | omega | (simp only [List.length_cons, List.length_nil]; omega)) only [go_sem, ↓reduceIte, Nat.reduceEqDiff, Nat.reduceAdd, Nat.reduceMul, Nat.reduceSub, Int.reduceToNat, s5, s6, s18, s19, s20, s9], by simp (disch := first | (simp only [go_sem, Bool.and_self, eq_self]; done) | omega | (simp only [List.length_cons, List.length_nil]; omega)) only [go_sem, ↓reduceIte, Nat.reduceEqDiff, Nat.reduceAdd, Nat.reduceMul, Nat.reduceSub, Int.reduceToNat, s5, s6, s18, s19, s20, s9], by simp (disch := first | (simp only [go_sem, Bool.and_self, eq_self]; done) | omega | (simp only [List.length_cons, List.length_nil]; omega)) only [go_sem, ↓reduceIte, Nat.reduceEqDiff, Nat.reduceAdd, Nat.reduceMul, Nat.reduceSub, Int.reduceToNat, s5, s6, s18, s19, s20, s9], by simp (disch := first | (simp only [go_sem, Bool.and_self, eq_self]; done) | omega | (simp only [List.length_cons, List.length_nil]; omega)) only [go_sem, ↓reduceIte, Nat.reduceEqDiff, Nat.reduceAdd, Nat.reduceMul, Nat.reduceSub, Int.reduceToNat, s5, s6, s18, s19, s20, s9], by simp (disch := first | (simp only [go_sem, Bool.and_self, eq_self]; done) | omega | (simp only [List.length_cons, List.length_nil]; omega)) only [go_sem, ↓reduceIte, Nat.reduceEqDiff, Nat.reduceAdd, Nat.reduceMul, Nat.reduceSub, Int.reduceToNat], by simp (disch := first | (simp only [go_sem, Bool.and_self, eq_self]; done) | omega | (simp only [List.length_cons, List.length_nil]; omega)) only [go_sem, ↓reduceIte, Nat.reduceEqDiff, Nat.reduceAdd, Nat.reduceMul, Nat.reduceSub, Int.reduceToNat], by omega⟩ ?_
    rintro j st g hj s26 ⟨rfl, s5, s6, s18, s19, s20, s9, s11, s24, s25, hn⟩
    by_cases hja : j < (accF a d).length
    case neg =>
      have : keepB (accF a d) p = true := by
        simp only [keepB, Bool.not_eq_true', List.any_eq_false, Bool.and_eq_true, decide_eq_true_eq]
        intro q hq
        obtain ⟨j', hj', rfl⟩ := List.getElem_of_mem hq
        rw [← nth_getElem hj']
        exact hn j' (by omega)
      simp (disch := first | (simp only [go_sem, Bool.and_self, eq_self]; done) | omega | (simp only [List.length_cons, List.length_nil]; omega)) only [go_sem, ↓reduceIte, Nat.reduceEqDiff, Nat.reduceAdd, Nat.reduceMul, Nat.reduceSub, Int.reduceToNat, s5, s6, s18, s19, s20, s9, s11, s24, s25, s26, hja]
      exact this
    have hflj := flat_get I (lsOf (accF a d)) j (by omega)
    rw [hls j hja] at hflj
    have hq36 := acc_lt f (nth_mem hja)
    have hmemj := nth_mem hja
    generalize hq : nth (accF a d) j = q at *
    have han := binA_andNot (P := Try.prog) 80 p.1 q.1 (by omega) (by omega)
    by_cases hne : p.1 = q.1
    · simp (disch := first | (simp only [go_sem, Bool.and_self, eq_self]; done) | omega | (simp only [List.length_cons, List.length_nil]; omega)) only [go_sem, ↓reduceIte, Nat.reduceEqDiff, Nat.reduceAdd, Nat.reduceMul, Nat.reduceSub, Int.reduceToNat, s5, s6, s18, s19, s20, s9, s11, s24, s25, s26, hja, hbl, hflj, eq_true hne]
      rw [ForK_normal]
      refine ⟨hja, by simp (disch := first | (simp only [go_sem, Bool.and_self, eq_self]; done) | omega | (simp only [List.length_cons, List.length_nil]; omega)) only [go_sem, ↓reduceIte, Nat.reduceEqDiff, Nat.reduceAdd, Nat.reduceMul, Nat.reduceSub, Int.reduceToNat, s26], rfl, by simp (disch := first | (simp only [go_sem, Bool.and_self, eq_self]; done) | omega | (simp only [List.length_cons, List.length_nil]; omega)) only [go_sem, ↓reduceIte, Nat.reduceEqDiff, Nat.reduceAdd, Nat.reduceMul, Nat.reduceSub, Int.reduceToNat, s5], by simp (disch := first | (simp only [go_sem, Bool.and_self, eq_self]; done) | omega | (simp only [List.length_cons, List.length_nil]; omega)) only [go_sem, ↓reduceIte, Nat.reduceEqDiff, Nat.reduceAdd, Nat.reduceMul, Nat.reduceSub, Int.reduceToNat, s6], by simp (disch := first | (simp only [go_sem, Bool.and_self, eq_self]; done) | omega | (simp only [List.length_cons, List.length_nil]; omega)) only [go_sem, ↓reduceIte, Nat.reduceEqDiff, Nat.reduceAdd, Nat.reduceMul, Nat.reduceSub, Int.reduceToNat, s18], by simp (disch := first | (simp only [go_sem, Bool.and_self, eq_self]; done) | omega | (simp only [List.length_cons, List.length_nil]; omega)) only [go_sem, ↓reduceIte, Nat.reduceEqDiff, Nat.reduceAdd, Nat.reduceMul, Nat.reduceSub, Int.reduceToNat, s19], by simp (disch := first | (simp only [go_sem, Bool.and_self, eq_self]; done) | omega | (simp only [List.length_cons, List.length_nil]; omega)) only [go_sem, ↓reduceIte, Nat.reduceEqDiff, Nat.reduceAdd, Nat.reduceMul, Nat.reduceSub, Int.reduceToNat, s20], by simp (disch := first | (simp only [go_sem, Bool.and_self, eq_self]; done) | omega | (simp only [List.length_cons, List.length_nil]; omega)) only [go_sem, ↓reduceIte, Nat.reduceEqDiff, Nat.reduceAdd, Nat.reduceMul, Nat.reduceSub, Int.reduceToNat, s9], by simp (disch := first | (simp only [go_sem, Bool.and_self, eq_self]; done) | omega | (simp only [List.length_cons, List.length_nil]; omega)) only [go_sem, ↓reduceIte, Nat.reduceEqDiff, Nat.reduceAdd, Nat.reduceMul, Nat.reduceSub, Int.reduceToNat, s11], by simp (disch := first | (simp only [go_sem, Bool.and_self, eq_self]; done) | omega | (simp only [List.length_cons, List.length_nil]; omega)) only [go_sem, ↓reduceIte, Nat.reduceEqDiff, Nat.reduceAdd, Nat.reduceMul, Nat.reduceSub, Int.reduceToNat, s24], by simp (disch := first | (simp only [go_sem, Bool.and_self, eq_self]; done) | omega | (simp only [List.length_cons, List.length_nil]; omega)) only [go_sem, ↓reduceIte, Nat.reduceEqDiff, Nat.reduceAdd, Nat.reduceMul, Nat.reduceSub, Int.reduceToNat, s25], fun j' hj' => ?_⟩
      rcases Nat.lt_or_ge j' j with h1 | h1
      · exact hn j' h1
      · rw [show j' = j by omega, hq]; exact fun h => h.1 hne
    · by_cases hsub : Sub p.1 q.1
      · have hd0 := diffN_zero.2 hsub
        have hkb : keepB (accF a d) p = false := by
          simp only [keepB, Bool.not_eq_false', List.any_eq_true, Bool.and_eq_true, decide_eq_true_eq]
          exact ⟨q, hmemj, hne, hsub⟩
        simp (disch := first | (simp only [go_sem, Bool.and_self, eq_self]; done) | omega | (simp only [List.length_cons, List.length_nil]; omega)) only [go_sem, ↓reduceIte, Nat.reduceEqDiff, Nat.reduceAdd, Nat.reduceMul, Nat.reduceSub, Int.reduceToNat, s5, s6, s18, s19, s20, s9, s11, s24, s25, s26, hja, hbl, hflj, hne, han, hd0, Int.natCast_zero]
        rw [ForK_normal]
        refine ⟨hlt, by simp (disch := first | (simp only [go_sem, Bool.and_self, eq_self]; done) | omega | (simp only [List.length_cons, List.length_nil]; omega)) only [go_sem, ↓reduceIte, Nat.reduceEqDiff, Nat.reduceAdd, Nat.reduceMul, Nat.reduceSub, Int.reduceToNat, s20], by simp (disch := first | (simp only [go_sem, Bool.and_self, eq_self]; done) | omega | (simp only [List.length_cons, List.length_nil]; omega)) only [go_sem, ↓reduceIte, Nat.reduceEqDiff, Nat.reduceAdd, Nat.reduceMul, Nat.reduceSub, Int.reduceToNat, s5], by simp (disch := first | (simp only [go_sem, Bool.and_self, eq_self]; done) | omega | (simp only [List.length_cons, List.length_nil]; omega)) only [go_sem, ↓reduceIte, Nat.reduceEqDiff, Nat.reduceAdd, Nat.reduceMul, Nat.reduceSub, Int.reduceToNat, s6], by simp (disch := first | (simp only [go_sem, Bool.and_self, eq_self]; done) | omega | (simp only [List.length_cons, List.length_nil]; omega)) only [go_sem, ↓reduceIte, Nat.reduceEqDiff, Nat.reduceAdd, Nat.reduceMul, Nat.reduceSub, Int.reduceToNat, s18], by simp (disch := first | (simp only [go_sem, Bool.and_self, eq_self]; done) | omega | (simp only [List.length_cons, List.length_nil]; omega)) only [go_sem, ↓reduceIte, Nat.reduceEqDiff, Nat.reduceAdd, Nat.reduceMul, Nat.reduceSub, Int.reduceToNat, s19], hnx, b2, b3, b4, how, w, by simp (disch := first | (simp only [go_sem, Bool.and_self, eq_self]; done) | omega | (simp only [List.length_cons, List.length_nil]; omega)) only [go_sem, ↓reduceIte, Nat.reduceEqDiff, Nat.reduceAdd, Nat.reduceMul, Nat.reduceSub, Int.reduceToNat, s9], hw, ?_, hdis⟩
        rw [htake, List.filter_append]
        simpa [hkb] using how9
      · have hd0 : ¬ diffN p.1 q.1 = 0 := fun h => hsub (diffN_zero.1 h)
        have hd1 : ¬ ((diffN p.1 q.1 : Nat) : Int) = 0 := by omega
        simp (disch := first | (simp only [go_sem, Bool.and_self, eq_self]; done) | omega | (simp only [List.length_cons, List.length_nil]; omega)) only [go_sem, ↓reduceIte, Nat.reduceEqDiff, Nat.reduceAdd, Nat.reduceMul, Nat.reduceSub, Int.reduceToNat, s5, s6, s18, s19, s20, s9, s11, s24, s25, s26, hja, hbl, hflj, hne, han, hd1]
        rw [ForK_normal]
        refine ⟨hja, by simp (disch := first | (simp only [go_sem, Bool.and_self, eq_self]; done) | omega | (simp only [List.length_cons, List.length_nil]; omega)) only [go_sem, ↓reduceIte, Nat.reduceEqDiff, Nat.reduceAdd, Nat.reduceMul, Nat.reduceSub, Int.reduceToNat, s26], rfl, by simp (disch := first | (simp only [go_sem, Bool.and_self, eq_self]; done) | omega | (simp only [List.length_cons, List.length_nil]; omega)) only [go_sem, ↓reduceIte, Nat.reduceEqDiff, Nat.reduceAdd, Nat.reduceMul, Nat.reduceSub, Int.reduceToNat, s5], by simp (disch := first | (simp only [go_sem, Bool.and_self, eq_self]; done) | omega | (simp only [List.length_cons, List.length_nil]; omega)) only [go_sem, ↓reduceIte, Nat.reduceEqDiff, Nat.reduceAdd, Nat.reduceMul, Nat.reduceSub, Int.reduceToNat, s6], by simp (disch := first | (simp only [go_sem, Bool.and_self, eq_self]; done) | omega | (simp only [List.length_cons, List.length_nil]; omega)) only [go_sem, ↓reduceIte, Nat.reduceEqDiff, Nat.reduceAdd, Nat.reduceMul, Nat.reduceSub, Int.reduceToNat, s18], by simp (disch := first | (simp only [go_sem, Bool.and_self, eq_self]; done) | omega | (simp only [List.length_cons, List.length_nil]; omega)) only [go_sem, ↓reduceIte, Nat.reduceEqDiff, Nat.reduceAdd, Nat.reduceMul, Nat.reduceSub, Int.reduceToNat, s19], by simp (disch := first | (simp only [go_sem, Bool.and_self, eq_self]; done) | omega | (simp only [List.length_cons, List.length_nil]; omega)) only [go_sem, ↓reduceIte, Nat.reduceEqDiff, Nat.reduceAdd, Nat.reduceMul, Nat.reduceSub, Int.reduceToNat, s20], by simp (disch := first | (simp only [go_sem, Bool.and_self, eq_self]; done) | omega | (simp only [List.length_cons, List.length_nil]; omega)) only [go_sem, ↓reduceIte, Nat.reduceEqDiff, Nat.reduceAdd, Nat.reduceMul, Nat.reduceSub, Int.reduceToNat, s9], by simp (disch := first | (simp only [go_sem, Bool.and_self, eq_self]; done) | omega | (simp only [List.length_cons, List.length_nil]; omega)) only [go_sem, ↓reduceIte, Nat.reduceEqDiff, Nat.reduceAdd, Nat.reduceMul, Nat.reduceSub, Int.reduceToNat, s11], by simp (disch := first | (simp only [go_sem, Bool.and_self, eq_self]; done) | omega | (simp only [List.length_cons, List.length_nil]; omega)) only [go_sem, ↓reduceIte, Nat.reduceEqDiff, Nat.reduceAdd, Nat.reduceMul, Nat.reduceSub, Int.reduceToNat, s24], by simp (disch := first | (simp only [go_sem, Bool.and_self, eq_self]; done) | omega | (simp only [List.length_cons, List.length_nil]; omega)) only [go_sem, ↓reduceIte, Nat.reduceEqDiff, Nat.reduceAdd, Nat.reduceMul, Nat.reduceSub, Int.reduceToNat, s25], fun j' hj' => ?_⟩
        rcases Nat.lt_or_ge j' j with h1 | h1
        · exact hn j' h1
        · rw [show j' = j by omega, hq]; exact fun h => hsub h.2
  rintro st g ⟨rfl, s5, s6, s18, s19, s20, s9, s11, hkb⟩
  have hlk := lookB_one 80 69 .i64 zero6 2 (esOf (accF a d)) (p.1 : Int) false rfl
  rw [findK_acc hok.pw hmem, Option.getD_some] at hlk
  have hb85 := build85 p.1 p.2
  have hbs := fun h : Hp => bsB_row (P := Try.prog) (h := h) (f := eO) 85 p (0, []) isz85 izero85 (by decide)
  have heo : eO p = I p.1 :: eC p.2 := rfl
  rw [heo] at hbs
  have hfl9 : (((accF a d).take i).filter (keepB (accF a d))).length ≤ 4096 := Nat.le_trans (List.length_filter_le _ _) (by rw [List.length_take]; omega)
  have happ := app_row (P := Try.prog) how9 85 56 (.agg [I 0, I 0, I 0, I 0, I 0, I 0, I 0]) p isz85 ibytes85 izero85 rfl (by omega) (by omega)
  simp (disch := first | (simp only [go_sem, Bool.and_self, eq_self]; done) | omega | (simp only [List.length_cons, List.length_nil]; omega)) only [go_sem, ↓reduceIte, Nat.reduceEqDiff, Nat.reduceAdd, Nat.reduceMul, Nat.reduceSub, Int.reduceToNat, s5, s6, s18, s19, s20, s9, s11, b2, b3, hlk, hb85, hbs, happ]
  rw [ForK_normal]
  have keep : ∀ id', id' < 7 → ∀ flat, (appH g w flat).bl id' = g.bl id' := by
    intro id' hid' flat
    exact appH_bl _ _ _ _ (by omega) (fun id2 off n sz e => by have := hw _ _ _ _ e; omega)
  refine ⟨hlt, by simp (disch := first | (simp only [go_sem, Bool.and_self, eq_self]; done) | omega | (simp only [List.length_cons, List.length_nil]; omega)) only [go_sem, ↓reduceIte, Nat.reduceEqDiff, Nat.reduceAdd, Nat.reduceMul, Nat.reduceSub, Int.reduceToNat, s20], by simp (disch := first | (simp only [go_sem, Bool.and_self, eq_self]; done) | omega | (simp only [List.length_cons, List.length_nil]; omega)) only [go_sem, ↓reduceIte, Nat.reduceEqDiff, Nat.reduceAdd, Nat.reduceMul, Nat.reduceSub, Int.reduceToNat, s5], by simp (disch := first | (simp only [go_sem, Bool.and_self, eq_self]; done) | omega | (simp only [List.length_cons, List.length_nil]; omega)) only [go_sem, ↓reduceIte, Nat.reduceEqDiff, Nat.reduceAdd, Nat.reduceMul, Nat.reduceSub, Int.reduceToNat, s6], by simp (disch := first | (simp only [go_sem, Bool.and_self, eq_self]; done) | omega | (simp only [List.length_cons, List.length_nil]; omega)) only [go_sem, ↓reduceIte, Nat.reduceEqDiff, Nat.reduceAdd, Nat.reduceMul, Nat.reduceSub, Int.reduceToNat, s18], by simp (disch := first | (simp only [go_sem, Bool.and_self, eq_self]; done) | omega | (simp only [List.length_cons, List.length_nil]; omega)) only [go_sem, ↓reduceIte, Nat.reduceEqDiff, Nat.reduceAdd, Nat.reduceMul, Nat.reduceSub, Int.reduceToNat, s19], by rw [appH_nx]; omega, by rw [keep 2 (by decide)]; exact b2, by rw [keep 3 (by decide)]; exact b3, by rw [keep 4 (by decide)]; exact b4, how.keep hdis _, _, by simp (disch := first | (simp only [go_sem, Bool.and_self, eq_self]; done) | omega | (simp only [List.length_cons, List.length_nil]; omega)) only [go_sem, ↓reduceIte, Nat.reduceEqDiff, Nat.reduceAdd, Nat.reduceMul, Nat.reduceSub, Int.reduceToNat]; rfl, ?_, ?_, how.dis _ _⟩
  · intro id' off n sz e; unfold appV at e; cases e; omega
  · rw [htake, List.filter_append]
    simp only [List.filter_cons, hkb, if_true, List.filter_nil]
    exact Own.app _ _ _
theorem k52 {a : List (List Int)} (f : Pl a) {d : Nat} (hd : 1 ≤ d ∧ d ≤ 4) : ConW Try.prog cfg 52 h (some ([LLI a, I d], h')) K = K (L eO (optF a d)) h' := by
  rw [ConW_any (f52_con f hd) rfl]; rfl
end Go.Proofs.Ytkjdnnedncomgaa
