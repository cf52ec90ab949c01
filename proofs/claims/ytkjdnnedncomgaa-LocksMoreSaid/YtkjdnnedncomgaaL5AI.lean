/-
  What more chambers, more depths, fewer keys, fewer locks, merged keys do to the least number of chambers: the plain law.
-/
import Derived.Test.YtkjdnnedncomgaaL5AH
import Derived.Test.YtkjdnnedncomgaaL5V
set_option linter.unusedVariables false
set_option linter.unusedSimpArgs false
set_option linter.unusedSectionVars false
set_option maxRecDepth 10000
namespace Go.Proofs.Ytkjdnnedncomgaa
open Go Go.Am

/-- Different numbers from 1 to d are at most d. -/
theorem pigeon : ∀ (d : Nat) (L : List Int), L.Nodup → (∀ v ∈ L, 1 ≤ v ∧ v ≤ d) → L.length ≤ d := by
  intro d
  induction d with
  | zero =>
    intro L hn hv
    cases L with
    | nil => simp
    | cons x xs => have := hv x (by simp); omega
  | succ d ih =>
    intro L hn hv
    have h1 := ih (L.erase ((d + 1 : Nat) : Int)) (hn.erase _) (by
      intro v hvm
      have h2 := (hn.mem_erase_iff).1 hvm
      have h3 := hv v h2.2
      have h4 := h2.1
      omega)
    have h5 : L.length ≤ (L.erase ((d + 1 : Nat) : Int)).length + 1 := by
      rw [List.length_erase]
      split <;> omega
    omega

/-- A colouring, its colours numbered as they come. -/
theorem canon {n d : Nat} {x : List Int} (hx : Dep x n d) : ∃ y ∈ lv d n [] 0, ∀ i j, i < n → j < n → (nth y i = nth y j ↔ nth x i = nth x j) := by
  have : ∀ (m k : Nat) (path : List Int) (used : Nat), k + m = n → path.length = k → (∀ i j, i < k → j < k → (nth path i = nth path j ↔ nth x i = nth x j)) →
      (∀ i, i < k → 1 ≤ nth path i ∧ nth path i ≤ used) → (∀ c : Nat, c < used → ∃ i, i < k ∧ nth path i = ((c + 1 : Nat) : Int)) → used ≤ d →
      ∃ y ∈ lv d m path used, ∀ i j, i < n → j < n → (nth y i = nth y j ↔ nth x i = nth x j) := by
    intro m
    induction m with
    | zero =>
      intro k path used hk hl heq hb hs hu
      have : k = n := by omega
      subst this
      exact ⟨path, by simp [lv], heq⟩
    | succ m ih =>
      intro k path used hk hl heq hb hs hu
      have go : ∀ c : Nat, c < min (used + 1) d → (∀ i, i < k → (nth path i = ((c + 1 : Nat) : Int) ↔ nth x i = nth x k)) → (∀ c' : Nat, c' < max used (c + 1) → ∃ i, i < k + 1 ∧ nth (path ++ [((c + 1 : Nat) : Int)]) i = ((c' + 1 : Nat) : Int)) →
          ∃ y ∈ lv d (m + 1) path used, ∀ i j, i < n → j < n → (nth y i = nth y j ↔ nth x i = nth x j) := by
        intro c hc hi hs'
        have hlast : nth (path ++ [((c + 1 : Nat) : Int)]) k = ((c + 1 : Nat) : Int) := by rw [← hl, nth_append_last]
        have hold : ∀ i, i < k → nth (path ++ [((c + 1 : Nat) : Int)]) i = nth path i := fun i h => nth_append_left _ _ _ (by omega)
        obtain ⟨y, hy, hp⟩ := ih (k + 1) (path ++ [((c + 1 : Nat) : Int)]) (max used (c + 1)) (by omega) (by simp [hl]) (by
          intro i j h1 h2
          rcases Nat.lt_or_ge i k with g1 | g1
          · rcases Nat.lt_or_ge j k with g2 | g2
            · rw [hold i g1, hold j g2]; exact heq i j g1 g2
            · have : j = k := by omega
              subst this
              rw [hold i g1, hlast]; exact hi i g1
          · have : i = k := by omega
            subst this
            rcases Nat.lt_or_ge j i with g2 | g2
            · rw [hold j g2, hlast]
              constructor
              · intro h; exact ((hi j g2).1 h.symm).symm
              · intro h; exact ((hi j g2).2 h.symm).symm
            · have : j = i := by omega
              subst this; simp) (by
          intro i h1
          rcases Nat.lt_or_ge i k with g1 | g1
          · rw [hold i g1]; have := hb i g1; omega
          · have : i = k := by omega
            subst this
            rw [hlast]; omega) hs' (by omega)
        refine ⟨y, ?_, hp⟩
        rw [lv, List.mem_flatMap]
        exact ⟨c, List.mem_range.2 hc, hy⟩
      by_cases hex : ∃ i, i < k ∧ nth x i = nth x k
      · obtain ⟨i0, h1, h2⟩ := hex
        have hb0 := hb i0 h1
        obtain ⟨c, hc⟩ : ∃ c : Nat, nth path i0 = ((c + 1 : Nat) : Int) := ⟨(nth path i0 - 1).toNat, by omega⟩
        refine go c (by omega) (fun i h3 => ?_) (fun c' h3 => ?_)
        · rw [← hc, heq i i0 h3 h1, h2]
        · obtain ⟨i, h4, h5⟩ := hs c' (by omega)
          exact ⟨i, by omega, by rw [nth_append_left _ _ _ (by omega)]; exact h5⟩
      · have hch := Classical.axiomOfChoice (fun c : Fin used => hs c.1 c.2)
        obtain ⟨g, hg⟩ := hch
        have hul : used + 1 ≤ d := by
          have hinj : ∀ c c' : Fin used, nth x (g c) = nth x (g c') → c = c' := by
            intro c c' h
            have h1 := (heq _ _ (hg c).1 (hg c').1).2 h
            rw [(hg c).2, (hg c').2] at h1
            exact Fin.ext (by omega)
          have hnd : ((List.finRange used).map (fun c => nth x (g c)) ++ [nth x k]).Nodup := by
            rw [List.nodup_append]
            refine ⟨?_, by simp, ?_⟩
            · rw [List.Nodup, List.pairwise_map]
              exact (List.nodup_finRange used).imp fun {c c'} hne h => hne (hinj c c' h)
            · intro v hv w hw
              simp at hw
              subst hw
              obtain ⟨c, _, rfl⟩ := List.mem_map.1 hv
              intro h
              exact hex ⟨g c, (hg c).1, h⟩
          have := pigeon d _ hnd (by
            intro v hv
            rcases List.mem_append.1 hv with h | h
            · obtain ⟨c, _, rfl⟩ := List.mem_map.1 h
              exact hx _ (by have := (hg c).1; omega)
            · simp at h; subst h; exact hx k (by omega))
          simpa using this
        refine go used (by omega) (fun i h3 => ?_) (fun c' h3 => ?_)
        · constructor
          · intro h; have := hb i h3; omega
          · intro h; exact absurd ⟨i, h3, h⟩ hex
        · rcases Nat.lt_or_ge c' used with h4 | h4
          · obtain ⟨i, h5, h6⟩ := hs c' h4
            exact ⟨i, by omega, by rw [nth_append_left _ _ _ (by omega)]; exact h6⟩
          · refine ⟨k, by omega, ?_⟩
            rw [← hl, nth_append_last]; omega
  exact this n 0 [] 0 (by omega) rfl (fun i j h => by omega) (fun i h => by omega) (fun c h => by omega) (by omega)
theorem blk_canon {a : List (List Int)} {x y : List Int} (h : ∀ i j, i < a.length → j < a.length → (nth y i = nth y j ↔ nth x i = nth x j)) : blk a x = blk a y := by
  have : blkP a x = blkP a y := by
    funext k j
    unfold blkP barB
    by_cases hk : k < a.length
    · have : pinB a (col a x) j 0 (nth x k) = pinB a (col a y) j 0 (nth y k) := by
        rw [Bool.eq_iff_iff]
        simp only [pinB, List.any_eq_true, List.mem_range, Bool.and_eq_true, decide_eq_true_eq]
        constructor
        · rintro ⟨i, hi, h1, h2⟩; rw [col_at hi] at h2; exact ⟨i, hi, h1, by rw [col_at hi]; exact (h i k hi hk).2 h2⟩
        · rintro ⟨i, hi, h1, h2⟩; rw [col_at hi] at h2; exact ⟨i, hi, h1, by rw [col_at hi]; exact (h i k hi hk).1 h2⟩
      rw [this]
    · rw [decide_eq_false hk]; rfl
  rw [blk, blk, this]

/-- Some chambers keep apart what must be kept apart. -/
def Good (a : List (List Int)) (d c : Nat) : Prop := ∃ l : List (List Int), l.length = c ∧ (∀ x ∈ l, Dep x a.length d) ∧ Sub (badM a) (orL (l.map (blk a)))
theorem good_iff {a : List (List Int)} (f : Pl a) {d : Nat} (hd : 1 ≤ d ∧ d ≤ 4) (c : Nat) : (planF a d c).isSome = true ↔ Good a d c := by
  constructor
  · intro h
    obtain ⟨l, hl⟩ := Option.isSome_iff_exists.1 h
    obtain ⟨h1, h2, h3⟩ := plan_ok f hd hl
    exact ⟨l, h1, h2, h3⟩
  · rintro ⟨l, h1, h2, h3⟩
    rw [planF, Option.isSome_map, covF_iff _ _ _ (bad_lt f)]
    have : ∀ l : List (List Int), (∀ x ∈ l, Dep x a.length d) → ∃ l' : List Nat, (∀ o ∈ l', ∃ p ∈ optF a d, p.1 = o) ∧ l'.length = l.length ∧ Sub (orL (l.map (blk a))) (orL l') := by
      intro l
      induction l with
      | nil => intro _; exact ⟨[], by simp, rfl, Sub.refl _⟩
      | cons x l ih =>
        intro hx
        obtain ⟨l', g1, g2, g3⟩ := ih fun y hy => hx y (by simp [hy])
        obtain ⟨y, hy, he⟩ := canon (hx x (by simp))
        have hb := blk_canon he
        have hm : blk a x ∈ chsF a d a.length [] 0 := by rw [hb]; exact List.mem_map.2 ⟨y, hy, rfl⟩
        obtain ⟨o, h4, h5⟩ := Mx_over hm
        refine ⟨o :: l', ?_, by simp [g2], fun i hi => ?_⟩
        · intro z hz
          rcases List.mem_cons.1 hz with rfl | hz
          · exact (optF_mem f d z).2 h4
          · exact g1 z hz
        · rw [orL_bit] at hi ⊢
          obtain ⟨z, hz, hzi⟩ := hi
          rcases List.mem_cons.1 hz with rfl | hz
          · exact ⟨o, by simp, h5 i hzi⟩
          · obtain ⟨w, hw, hwi⟩ := (orL_bit _ _).1 (g3 i ((orL_bit _ _).2 ⟨z, hz, hzi⟩))
            exact ⟨w, by simp [hw], hwi⟩
    obtain ⟨l', g1, g2, g3⟩ := this l h2
    exact ⟨l', g1, by omega, h3.trans g3⟩

/-- A plan whose keys and locks are among those of another one. -/
theorem good_emb {a a' : List (List Int)} (f : Pl a) (f' : Pl a') (φ ψ : Nat → Nat) (hφ : ∀ k, k < a'.length → φ k < a.length) (hψ : ∀ j, j < (nth a' 0).length → ψ j < (nth a 0).length)
    (heq : ∀ k j, k < a'.length → j < (nth a' 0).length → at2 a' k j = at2 a (φ k) (ψ j)) {d c : Nat} (h : Good a d c) : Good a' d c := by
  obtain ⟨l, h1, h2, h3⟩ := h
  have hlo := f.locks
  have hlo' := f'.locks
  let r : List Int → List Int := fun x => (List.range a'.length).map fun k => nth x (φ k)
  have hr : ∀ x k, k < a'.length → nth (r x) k = nth x (φ k) := fun x k hk => nth_map_range _ _ _ hk
  refine ⟨l.map r, by simp [h1], ?_, ?_⟩
  · intro x hx k hk
    obtain ⟨y, hy, rfl⟩ := List.mem_map.1 hx
    rw [hr y k hk]
    exact h2 y hy _ (hφ k hk)
  · intro i hi
    have hi2 := hi
    rw [bits_at f' (bad_bits f')] at hi2
    simp only [badP, Bool.and_eq_true, decide_eq_true_eq, List.any_eq_true, List.mem_range] at hi2
    obtain ⟨⟨⟨g1, g2⟩, g3⟩, o, g4, g5⟩ := hi2
    generalize hk : i / 6 = k at *
    generalize hj : i % 6 = j at *
    have hb : (badM a).testBit (φ k * 6 + ψ j) = true := by
      have := hψ j g2
      rw [bad_bits f _ _ (by omega)]
      simp only [badP, Bool.and_eq_true, decide_eq_true_eq, List.any_eq_true, List.mem_range]
      exact ⟨⟨⟨hφ k g1, hψ j g2⟩, by rw [← heq k j g1 g2]; exact g3⟩, φ o, hφ o g4, by rw [← heq o j g4 g2]; exact g5⟩
    obtain ⟨z, hz, hzb⟩ := (orL_bit _ _).1 (h3 _ hb)
    obtain ⟨x, hx, rfl⟩ := List.mem_map.1 hz
    have := hψ j g2
    rw [blk_bits f x _ _ (by omega)] at hzb
    simp only [blkP, barB, Bool.and_eq_true, decide_eq_true_eq, Bool.not_eq_true'] at hzb
    refine (orL_bit _ _).2 ⟨blk a' (r x), by simp; exact ⟨x, hx, rfl⟩, ?_⟩
    rw [bits_at f' (blk_bits f' (r x)), hk, hj]
    simp only [blkP, barB, Bool.and_eq_true, decide_eq_true_eq, Bool.not_eq_true']
    refine ⟨⟨g1, g2⟩, ?_⟩
    rw [pinB, List.any_eq_false]
    intro i' hi'
    have hi' := List.mem_range.1 hi'
    rw [col_at hi', hr x i' hi', hr x k g1]
    simp only [Bool.and_eq_true, decide_eq_true_eq, not_and]
    intro e1 e2
    have hp := hzb.2
    rw [pinB, List.any_eq_false] at hp
    have := hp (φ i') (List.mem_range.2 (hφ i' hi'))
    rw [col_at (hφ i' hi')] at this
    simp only [Bool.and_eq_true, decide_eq_true_eq, not_and] at this
    exact this (by rw [← heq i' j hi' g2]; exact e1) e2
theorem good_more {a : List (List Int)} {d d' c : Nat} (h : d ≤ d') (g : Good a d c) : Good a d' c := by
  obtain ⟨l, h1, h2, h3⟩ := g
  exact ⟨l, h1, fun x hx i hi => by have := h2 x hx i hi; omega, h3⟩

/-- Least numbers, compared. -/
theorem least_cmp {a a' : List (List Int)} (f : Pl a) (f' : Pl a') {d d' : Nat} (hd : 1 ≤ d ∧ d ≤ 4) (hd' : 1 ≤ d' ∧ d' ≤ 4) (h : ∀ c, Good a d c → Good a' d' c) (hn : leastN a d 4 ≠ 0) : leastN a' d' 4 ≠ 0 ∧ leastN a' d' 4 ≤ leastN a d 4 := by
  have hle := least_le (a := a) (d := d) 4
  have h1 : (planF a d (leastN a d 4)).isSome = true := (least_iff f (by omega)).2 ⟨hn, Nat.le_refl _⟩
  exact (least_iff f' (by omega)).1 ((good_iff f' hd' _).2 (h _ ((good_iff f hd _).1 h1)))
theorem least_same {a a' : List (List Int)} (f : Pl a) (f' : Pl a') {d : Nat} (hd : 1 ≤ d ∧ d ≤ 4) (h1 : ∀ c, Good a d c → Good a' d c) (h2 : ∀ c, Good a' d c → Good a d c) : leastN a d 4 = leastN a' d 4 := by
  by_cases g1 : leastN a d 4 = 0
  · by_cases g2 : leastN a' d 4 = 0
    · omega
    · have := least_cmp f' f hd hd h2 g2; omega
  · have g3 := least_cmp f f' hd hd h1 g1
    have g4 := least_cmp f' f hd hd h2 g3.1
    omega

/-! ### The plans that the statement makes -/
def dropKey (a : List (List Int)) (i : Nat) : List (List Int) := a.take i ++ a.drop (i + 1)
def dropLock (a : List (List Int)) (j : Nat) : List (List Int) := (List.range a.length).map fun i => (nth a i).take j ++ (nth a i).drop (j + 1)
theorem drop_nth {α : Type} [Inhabited α] (l : List α) (i k : Nat) (hi : i < l.length) : nth (l.take i ++ l.drop (i + 1)) k = nth l (if k < i then k else k + 1) := by
  unfold nth
  by_cases h : k < i
  · rw [if_pos h, List.getElem?_append_left (by simp; omega), List.getElem?_take, if_pos h]
  · rw [if_neg h, List.getElem?_append_right (by simp; omega), List.getElem?_drop, List.length_take]
    congr 2; omega
theorem isPlan_of {a : List (List Int)} (f : Pl a) : isPlanB a = true := by
  simp only [isPlanB, Bool.and_eq_true, decide_eq_true_eq]
  refine ⟨⟨f.keys, f.locks⟩, all_of_nth fun i hi => ?_⟩
  rw [decide_eq_true (f.row i hi), Bool.true_and]
  refine all_of_nth fun j hj => ?_
  have := f.bit i j hi (by rw [← f.row i hi]; exact hj)
  unfold at2 at this
  simp only [decide_eq_true_eq]; omega
theorem dropKey_pl {a : List (List Int)} (f : Pl a) {i : Nat} (hi : i < a.length) (h2 : 1 < a.length) : Pl (dropKey a i) ∧ ∀ d c, Good a d c → Good (dropKey a i) d c := by
  have hk := f.keys
  have hlen : (dropKey a i).length = a.length - 1 := by simp [dropKey]; omega
  have hnth : ∀ k, nth (dropKey a i) k = nth a (if k < i then k else k + 1) := fun k => drop_nth a i k hi
  have h0 : (nth (dropKey a i) 0).length = (nth a 0).length := by rw [hnth, f.row _ (by split <;> omega)]
  have f' : Pl (dropKey a i) := by
    refine ⟨by omega, by rw [h0]; exact f.locks, fun k hk2 => ?_, fun k j hk2 hj => ?_⟩
    · rw [h0, hnth, f.row _ (by split <;> omega)]
    · rw [h0] at hj
      show nth (nth (dropKey a i) k) j = 0 ∨ _
      unfold at2
      rw [hnth]
      exact f.bit _ j (by split <;> omega) hj
  refine ⟨f', fun d c g => good_emb f f' (fun k => if k < i then k else k + 1) (fun j => j) (fun k hk2 => by show (if k < i then k else k + 1) < _; split <;> omega) (fun j hj => by rw [h0] at hj; exact hj) (fun k j _ _ => ?_) g⟩
  unfold at2; rw [hnth]
theorem dropLock_pl {a : List (List Int)} (f : Pl a) {j : Nat} (hj : j < (nth a 0).length) (h2 : 1 < (nth a 0).length) : Pl (dropLock a j) ∧ ∀ d c, Good a d c → Good (dropLock a j) d c := by
  have hk := f.keys
  have hlo := f.locks
  have hlen : (dropLock a j).length = a.length := by simp [dropLock]
  have hnth : ∀ k, k < a.length → nth (dropLock a j) k = (nth a k).take j ++ (nth a k).drop (j + 1) := fun k hk2 => nth_map_range _ _ _ hk2
  have hl : ∀ k, k < a.length → (nth (dropLock a j) k).length = (nth a 0).length - 1 := by
    intro k hk2
    have := f.row k hk2
    rw [hnth k hk2]; simp; omega
  have hat : ∀ k e, k < a.length → at2 (dropLock a j) k e = at2 a k (if e < j then e else e + 1) := by
    intro k e hk2
    have := f.row k hk2
    unfold at2
    rw [hnth k hk2, drop_nth _ _ _ (by omega)]
  have h0 := hl 0 (by omega)
  have f' : Pl (dropLock a j) := by
    refine ⟨by omega, by omega, fun k hk2 => by rw [h0, hl k (by omega)], fun k e hk2 he => ?_⟩
    rw [hat k e (by omega)]
    exact f.bit k _ (by omega) (by split <;> omega)
  refine ⟨f', fun d c g => good_emb f f' (fun k => k) (fun e => if e < j then e else e + 1) (fun k hk2 => by rw [hlen] at hk2; exact hk2) (fun e he => by show (if e < j then e else e + 1) < _; split <;> omega) (fun k e hk2 _ => hat k e (by omega)) g⟩
theorem mrgO_all {a : List (List Int)} {n k : Nat} (hk : k < n) : nth a k ∈ mrgO a n := by
  induction n with
  | zero => omega
  | succ n ih =>
    rw [mrgO]
    rcases Nat.lt_or_ge k n with h | h
    · split
      · exact ih h
      · exact List.mem_append_left _ (ih h)
    · have : k = n := by omega
      subst this
      split
      · assumption
      · simp
theorem merge_pl {a : List (List Int)} (f : Pl a) : Pl (mrgO a a.length) ∧ (∀ d c, Good a d c → Good (mrgO a a.length) d c) ∧ ∀ d c, Good (mrgO a a.length) d c → Good a d c := by
  have hk := f.keys
  have hlo := f.locks
  have hl := mrgO_len a a.length
  have h1 : 0 < (mrgO a a.length).length := List.length_pos_of_mem (mrgO_all (a := a) (n := a.length) (k := 0) (by omega))
  have hrow : ∀ k, k < (mrgO a a.length).length → ∃ i, i < a.length ∧ nth (mrgO a a.length) k = nth a i := fun k hk2 => mrgO_mem (nth_mem hk2)
  have hrl : ∀ k, k < (mrgO a a.length).length → (nth (mrgO a a.length) k).length = (nth a 0).length := by
    intro k hk2
    obtain ⟨i, hi, e⟩ := hrow k hk2
    rw [e, f.row i hi]
  have h0 := hrl 0 h1
  have f' : Pl (mrgO a a.length) := by
    refine ⟨by omega, by omega, fun k hk2 => by rw [h0, hrl k hk2], fun k j hk2 hj => ?_⟩
    obtain ⟨i, hi, e⟩ := hrow k hk2
    unfold at2
    rw [e]
    exact f.bit i j hi (by omega)
  refine ⟨f', fun d c g => ?_, fun d c g => ?_⟩
  · have hch := Classical.axiomOfChoice (fun k : Fin (mrgO a a.length).length => hrow k.1 k.2)
    obtain ⟨φ, hφ⟩ := hch
    refine good_emb f f' (fun k => if h : k < (mrgO a a.length).length then φ ⟨k, h⟩ else 0) (fun j => j) (fun k hk2 => ?_) (fun j hj => by omega) (fun k j hk2 _ => ?_) g
    · simp only [dif_pos hk2]; exact (hφ _).1
    · simp only [dif_pos hk2]
      unfold at2
      rw [(hφ ⟨k, hk2⟩).2]
  · refine good_emb f' f (fun k => idxR (mrgO a a.length) (nth a k)) (fun j => j) (fun k hk2 => idxR_lt (mrgO_all hk2)) (fun j hj => by omega) (fun k j hk2 _ => ?_) g
    unfold at2
    rw [idxR_nth (mrgO_all hk2)]
end Go.Proofs.Ytkjdnnedncomgaa
