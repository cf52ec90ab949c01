/-
  The least number of chambers: the program's search and the reference's agree, and what Plan returns is right.
-/
import Derived.Test.YtkjdnnedncomgaaL5AC
import Derived.Test.YtkjdnnedncomgaaL5AE
import Derived.Test.YtkjdnnedncomgaaL5S
set_option linter.unusedVariables false
set_option linter.unusedSectionVars false
set_option linter.unusedSimpArgs false
set_option maxRecDepth 10000
namespace Go.Proofs.Ytkjdnnedncomgaa
open Go Go.Am

theorem Sub.le {s t : Nat} (h : Sub s t) : s ≤ t := by
  have : s ||| t = t := by
    refine Nat.eq_of_testBit_eq fun i => ?_
    rw [Nat.testBit_or]
    cases hs : s.testBit i with
    | false => rfl
    | true => rw [h i hs]; rfl
  rw [← this]; exact Nat.left_le_or
/-- In l, and in no other set of l. -/
def Mx (l : List Nat) (x : Nat) : Prop := x ∈ l ∧ ∀ y ∈ l, Sub x y → x = y
theorem bound_list (l : List Nat) : ∃ N, ∀ y ∈ l, y ≤ N := by
  induction l with
  | nil => exact ⟨0, by simp⟩
  | cons x l ih =>
    obtain ⟨N, h⟩ := ih
    exact ⟨max x N, fun y hy => by rcases List.mem_cons.1 hy with rfl | hy; omega; have := h y hy; omega⟩
theorem Mx_over {l : List Nat} {y : Nat} (hy : y ∈ l) : ∃ x, Mx l x ∧ Sub y x := by
  obtain ⟨N, hN⟩ := bound_list l
  have : ∀ n y, y ∈ l → N - y ≤ n → ∃ x, Mx l x ∧ Sub y x := by
    intro n
    induction n with
    | zero =>
      intro y hy hn
      refine ⟨y, ⟨hy, fun z hz hs => ?_⟩, Sub.refl y⟩
      have := hN z hz; have := hs.le; have := hN y hy; omega
    | succ n ih =>
      intro y hy hn
      by_cases h : ∀ z ∈ l, Sub y z → y = z
      · exact ⟨y, ⟨hy, h⟩, Sub.refl y⟩
      · have : ∃ z, z ∈ l ∧ Sub y z ∧ y ≠ z := by
          refine Classical.byContradiction fun hn => h fun z hz hs => Classical.byContradiction fun hne => hn ⟨z, hz, hs, hne⟩
        obtain ⟨z, hz, hs, hne⟩ := this
        have h1 := hs.le
        obtain ⟨x, h2, h3⟩ := ih z hz (by have := hN z hz; omega)
        exact ⟨x, h2, hs.trans h3⟩
  exact this (N - y) y hy (Nat.le_refl _)
theorem first_at {l : List Nat} {x : Nat} (hx : x ∈ l) : ∃ i, i < l.length ∧ nth l i = x ∧ ∀ k, k < i → nth l k ≠ x := by
  obtain ⟨i, hi, rfl⟩ := List.getElem_of_mem hx
  rw [← nth_getElem hi]
  have : ∀ i, i < l.length → ∃ i', i' < l.length ∧ nth l i' = nth l i ∧ ∀ k, k < i' → nth l k ≠ nth l i := by
    intro i
    induction i using Nat.strongRecOn with
    | _ i ih =>
      intro hi
      by_cases h : ∃ k, k < i ∧ nth l k = nth l i
      · obtain ⟨k, h1, h2⟩ := h
        obtain ⟨i', h3, h4, h5⟩ := ih k h1 (by omega)
        exact ⟨i', h3, by rw [h4, h2], fun k' hk' => by rw [← h2]; exact h5 k' hk'⟩
      · exact ⟨i, hi, rfl, fun k hk e => h ⟨k, hk, e⟩⟩
  exact this i hi
theorem mem_maxF {l : List Nat} {x : Nat} : x ∈ maxF l ↔ Mx l x := by
  constructor
  · intro h
    rw [maxF, maxN, List.mem_map] at h
    obtain ⟨i, hi, rfl⟩ := h
    obtain ⟨h1, h2⟩ := List.mem_filter.1 hi
    have h1 := List.mem_range.1 h1
    refine ⟨nth_mem h1, fun y hy hs => ?_⟩
    obtain ⟨k, hk, rfl⟩ := List.getElem_of_mem hy
    rw [← nth_getElem hk] at hs ⊢
    rw [stayB, Bool.not_eq_true', List.any_eq_false] at h2
    have := h2 k (List.mem_range.2 hk)
    simp only [overB, decide_eq_true hs, Bool.true_and, Bool.or_eq_true, decide_eq_true_eq, not_or] at this
    exact Classical.byContradiction fun h => this.1 h
  · rintro ⟨h1, h2⟩
    obtain ⟨i, hi, rfl, hf⟩ := first_at h1
    rw [maxF, maxN, List.mem_map]
    refine ⟨i, List.mem_filter.2 ⟨List.mem_range.2 hi, ?_⟩, rfl⟩
    rw [stayB, Bool.not_eq_true', List.any_eq_false]
    intro k hk
    have hk := List.mem_range.1 hk
    simp only [overB, Bool.and_eq_true, Bool.or_eq_true, decide_eq_true_eq, not_and, not_or]
    intro hs
    have e := h2 _ (nth_mem hk) hs
    exact ⟨fun hne => hne e, fun hki => hf k hki e.symm⟩

/-- All of a list together. -/
def orL (l : List Nat) : Nat := l.foldr (· ||| ·) 0
theorem orL_bit (l : List Nat) (i : Nat) : (orL l).testBit i = true ↔ ∃ o ∈ l, o.testBit i = true := by
  induction l with
  | nil => simp [orL]
  | cons x l ih =>
    have e : orL (x :: l) = x ||| orL l := rfl
    rw [e, Nat.testBit_or, Bool.or_eq_true, ih]
    simp
def CovL (M : Nat → Prop) (c need : Nat) : Prop := ∃ l : List Nat, (∀ o ∈ l, M o) ∧ l.length ≤ c ∧ Sub need (orL l)

theorem covF_iff (l : List (Nat × List Int)) : ∀ (c need : Nat), need < 2 ^ 36 → ((covF l c need).isSome = true ↔ CovL (fun x => ∃ p ∈ l, p.1 = x) c need) := by
  intro c
  induction c with
  | zero =>
    intro need hn
    rw [covF]
    constructor
    · intro h
      split at h
      · rename_i h0; subst h0; exact ⟨[], by simp, by simp, fun i hi => by simp at hi⟩
      · cases h
    · rintro ⟨l', _, h2, h3⟩
      have : l' = [] := List.eq_nil_of_length_eq_zero (by omega)
      subst this
      have : need = 0 := by
        have := h3.le
        simpa [orL] using this
      rw [if_pos this]; rfl
  | succ c ih =>
    intro need hn
    rw [covF]
    by_cases h0 : need = 0
    · rw [if_pos h0]
      refine ⟨fun _ => ⟨[], by simp, by simp, fun i hi => by subst h0; simp at hi⟩, fun _ => rfl⟩
    rw [if_neg h0, List.isSome_findSome?, List.any_eq_true]
    constructor
    · rintro ⟨x, hx, h1⟩
      split at h1
      · cases h1
      · rw [Option.isSome_map] at h1
        obtain ⟨l', g1, g2, g3⟩ := (ih (diffN need x.1) (diffN_lt hn)).1 h1
        refine ⟨x.1 :: l', ?_, by simp; omega, ?_⟩
        · intro o ho
          rcases List.mem_cons.1 ho with rfl | ho
          · exact ⟨x, hx, rfl⟩
          · exact g1 o ho
        · intro i hi
          rw [orL_bit]
          by_cases hxi : x.1.testBit i = true
          · exact ⟨x.1, by simp, hxi⟩
          · have : (diffN need x.1).testBit i = true := by rw [diffN_bit, hi]; simp [hxi]
            obtain ⟨o, h2, h3⟩ := (orL_bit l' i).1 (g3 i this)
            exact ⟨o, by simp [h2], h3⟩
    · rintro ⟨l', g1, g2, g3⟩
      obtain ⟨b, hb⟩ := Nat.exists_testBit_of_ne_zero (lowN_ne (n := need) (by omega) h0)
      obtain ⟨o, ho, hob⟩ := (orL_bit l' b).1 (g3 b (lowN_sub hb))
      obtain ⟨x, hx, rfl⟩ := g1 o ho
      refine ⟨x, hx, ?_⟩
      have hne : ¬ x.1 &&& lowN need = 0 := by
        intro e
        have : (x.1 &&& lowN need).testBit b = true := by rw [Nat.testBit_and, hob, hb]; rfl
        rw [e, Nat.zero_testBit] at this; cases this
      rw [if_neg hne, Option.isSome_map]
      refine (ih _ (diffN_lt hn)).2 ⟨l'.erase x.1, fun o h => g1 o (List.mem_of_mem_erase h), ?_, ?_⟩
      · rw [List.length_erase_of_mem ho]; omega
      · intro i hi
        rw [diffN_bit, Bool.and_eq_true, Bool.not_eq_true'] at hi
        obtain ⟨o, h1, h2⟩ := (orL_bit l' i).1 (g3 i hi.1)
        refine (orL_bit _ i).2 ⟨o, (List.mem_erase_of_ne ?_).2 h1, h2⟩
        rintro rfl
        rw [h2] at hi; cases hi.2

/-! ### The reference's levels -/
theorem nowF_props (one : List Nat) : ∀ c, (∀ s ∈ nowF one c, ∃ l : List Nat, (∀ o ∈ l, o ∈ one) ∧ l.length = c ∧ s = orL l) ∧ (∀ l : List Nat, (∀ o ∈ l, o ∈ one) → l.length = c → ∃ s ∈ nowF one c, Sub (orL l) s) := by
  intro c
  induction c with
  | zero =>
    refine ⟨fun s hs => ⟨[], by simp, rfl, by simpa [nowF, orL] using hs⟩, fun l _ hl => ?_⟩
    have : l = [] := List.eq_nil_of_length_eq_zero hl
    subst this
    exact ⟨0, by simp [nowF], Sub.refl 0⟩
  | succ c ih =>
    have key : ∀ s, s ∈ nextF (nowF one c) one ↔ ∃ s' ∈ nowF one c, ∃ o ∈ one, s = s' ||| o := by
      intro s
      rw [nextF, List.mem_flatMap]
      constructor
      · rintro ⟨s', h1, h2⟩
        obtain ⟨o, h3, rfl⟩ := List.mem_map.1 h2
        exact ⟨s', h1, o, h3, rfl⟩
      · rintro ⟨s', h1, o, h3, rfl⟩
        exact ⟨s', h1, List.mem_map.2 ⟨o, h3, rfl⟩⟩
    refine ⟨fun s hs => ?_, fun l hl hc => ?_⟩
    · rw [nowF] at hs
      obtain ⟨s', h1, o, h2, rfl⟩ := (key s).1 (maxF_mem hs)
      obtain ⟨l, g1, g2, rfl⟩ := ih.1 s' h1
      refine ⟨o :: l, ?_, by simp [g2], ?_⟩
      · intro x hx
        rcases List.mem_cons.1 hx with rfl | hx
        · exact h2
        · exact g1 x hx
      · show orL l ||| o = o ||| orL l
        rw [Nat.or_comm]
    · cases l with
      | nil => cases hc
      | cons o l =>
        obtain ⟨s', h1, h2⟩ := ih.2 l (fun x hx => hl x (by simp [hx])) (by simpa using hc)
        have hm := (key (s' ||| o)).2 ⟨s', h1, o, hl o (by simp), rfl⟩
        obtain ⟨s, h3, h4⟩ := Mx_over hm
        refine ⟨s, by rw [nowF]; exact mem_maxF.2 h3, fun i hi => h4 i ?_⟩
        rw [orL_bit] at hi
        obtain ⟨x, hx, hxi⟩ := hi
        rw [Nat.testBit_or, Bool.or_eq_true]
        rcases List.mem_cons.1 hx with rfl | hx
        · exact .inr hxi
        · exact .inl (h2 i ((orL_bit l i).2 ⟨x, hx, hxi⟩))
theorem next_iff {one : List Nat} {all : Nat} (ho : ∀ o ∈ one, Sub o all) (c : Nat) : all ∈ nextF (nowF one c) one ↔ ∃ l : List Nat, (∀ o ∈ l, o ∈ one) ∧ l.length = c + 1 ∧ orL l = all := by
  rw [nextF, List.mem_flatMap]
  constructor
  · rintro ⟨s, h1, h2⟩
    obtain ⟨o, h3, e⟩ := List.mem_map.1 h2
    obtain ⟨l, g1, g2, rfl⟩ := (nowF_props one c).1 s h1
    refine ⟨o :: l, ?_, by simp [g2], ?_⟩
    · intro x hx
      rcases List.mem_cons.1 hx with rfl | hx
      · exact h3
      · exact g1 x hx
    · show o ||| orL l = all
      rw [Nat.or_comm, e]
  · rintro ⟨l, hl, hc, e⟩
    cases l with
    | nil => cases hc
    | cons o l =>
      obtain ⟨s, h1, h2⟩ := (nowF_props one c).2 l (fun x hx => hl x (by simp [hx])) (by simpa using hc)
      refine ⟨s, h1, List.mem_map.2 ⟨o, hl o (by simp), ?_⟩⟩
      obtain ⟨l', g1, _, g3⟩ := (nowF_props one c).1 s h1
      refine Sub.antisymm (fun i hi => ?_) (fun i hi => ?_)
      · rw [Nat.testBit_or, Bool.or_eq_true] at hi
        rcases hi with hi | hi
        · rw [g3, orL_bit] at hi
          obtain ⟨x, hx, hxi⟩ := hi
          exact ho x (g1 x hx) i hxi
        · exact ho o (hl o (by simp)) i hi
      · rw [← e] at hi
        have hi : (o ||| orL l).testBit i = true := hi
        rw [Nat.testBit_or, Bool.or_eq_true] at hi ⊢
        rcases hi with hi | hi
        · exact .inr hi
        · exact .inl (h2 i hi)

/-! ### The sets of one plan -/
section
variable {a : List (List Int)} (f : Pl a)
include f
theorem bits_at {X : Nat} {p : Nat → Nat → Bool} (hX : bits X p) (i : Nat) : X.testBit i = p (i / 6) (i % 6) := by
  have := hX (i / 6) (i % 6) (Nat.mod_lt _ (by decide))
  rwa [show i / 6 * 6 + i % 6 = i by omega] at this
theorem pin_own {x : List Int} {k j : Nat} (hk : k < a.length) (h1 : at2 a k j = 1) : pinB a (col a x) j 0 (nth x k) = true := by
  rw [pinB, List.any_eq_true]
  refine ⟨k, List.mem_range.2 hk, ?_⟩
  rw [col_at hk]
  simp only [Bool.and_eq_true, decide_eq_true_eq]
  exact ⟨h1, trivial⟩
theorem blk_sub (x : List Int) : Sub (blk a x) (goalM a) := by
  intro i hi
  rw [bits_at f (blk_bits f x)] at hi
  rw [bits_at f (goal_bits f)]
  simp only [blkP, barB, Bool.and_eq_true, decide_eq_true_eq, Bool.not_eq_true'] at hi
  simp only [goalP, Bool.and_eq_true, decide_eq_true_eq]
  refine ⟨hi.1, ?_⟩
  rcases f.bit _ _ hi.1.1 hi.1.2 with h | h
  · exact h
  · have := pin_own f (x := x) hi.1.1 h
    rw [hi.2] at this; cases this
theorem bad_sub : Sub (badM a) (goalM a) := by
  intro i hi
  rw [bits_at f (bad_bits f)] at hi
  rw [bits_at f (goal_bits f)]
  simp only [badP, Bool.and_eq_true] at hi
  simp only [goalP, Bool.and_eq_true]
  exact hi.1
theorem goal_or (x : List Int) {i : Nat} (hi : (goalM a).testBit i = true) (hn : ¬ (badM a).testBit i = true) : (blk a x).testBit i = true := by
  rw [bits_at f (goal_bits f)] at hi
  rw [bits_at f (bad_bits f)] at hn
  rw [bits_at f (blk_bits f x)]
  simp only [goalP, Bool.and_eq_true] at hi
  simp only [badP, hi.1.1, hi.1.2, hi.2, Bool.true_and, Bool.and_self, Bool.not_eq_true] at hn
  simp only [blkP, hi.1.1, hi.1.2, Bool.true_and, barB, Bool.not_eq_true']
  rw [pinB, List.any_eq_false]
  intro o ho
  rw [List.any_eq_false] at hn
  have := hn o ho
  simp only [decide_eq_true_eq] at this
  simp [this]

theorem accF_mem (d x : Nat) : (∃ p ∈ accF a d, p.1 = x) ↔ x ∈ chsF a d a.length [] 0 := by
  have : ∀ (l : List (List Int)) (acc : List (Nat × List Int)), (∃ p ∈ l.foldl (addC a) acc, p.1 = x) ↔ (∃ p ∈ acc, p.1 = x) ∨ x ∈ l.map (blk a) := by
    intro l
    induction l with
    | nil => intro acc; simp
    | cons y l ih =>
      intro acc
      rw [List.foldl_cons, ih, List.map_cons, List.mem_cons]
      have h1 : (∃ p ∈ addC a acc y, p.1 = x) ↔ (∃ p ∈ acc, p.1 = x) ∨ x = blk a y := by
        unfold addC
        split
        · rename_i h
          obtain ⟨q, hq, he⟩ := List.any_eq_true.1 h
          simp only [decide_eq_true_eq] at he
          constructor
          · intro h; exact .inl h
          · rintro (h | rfl)
            · exact h
            · exact ⟨q, hq, he⟩
        · constructor
          · rintro ⟨p, hp, rfl⟩
            rcases List.mem_append.1 hp with h | h
            · exact .inl ⟨p, h, rfl⟩
            · simp at h; subst h; exact .inr rfl
          · rintro (⟨p, hp, rfl⟩ | rfl)
            · exact ⟨p, List.mem_append_left _ hp, rfl⟩
            · exact ⟨(blk a y, y), by simp, rfl⟩
      rw [h1, or_assoc]
  rw [accF, this]
  simp [chsF]
theorem optF_mem (d x : Nat) : (∃ p ∈ optF a d, p.1 = x) ↔ Mx (chsF a d a.length [] 0) x := by
  constructor
  · rintro ⟨p, hp, rfl⟩
    obtain ⟨h1, h2⟩ := List.mem_filter.1 hp
    refine ⟨(accF_mem f d _).1 ⟨p, h1, rfl⟩, fun y hy hs => ?_⟩
    obtain ⟨q, hq, rfl⟩ := (accF_mem f d y).2 hy
    simp only [keepB, Bool.not_eq_true', List.any_eq_false, Bool.and_eq_true, decide_eq_true_eq, not_and] at h2
    exact Classical.byContradiction fun hne => h2 q hq hne hs
  · rintro ⟨h1, h2⟩
    obtain ⟨p, hp, rfl⟩ := (accF_mem f d x).2 h1
    refine ⟨p, List.mem_filter.2 ⟨hp, ?_⟩, rfl⟩
    simp only [keepB, Bool.not_eq_true', List.any_eq_false, Bool.and_eq_true, decide_eq_true_eq, not_and]
    intro q hq hne hs
    exact hne (h2 _ ((accF_mem f d _).1 ⟨q, hq, rfl⟩) hs)

theorem lv_ne {d : Nat} (hd : 1 ≤ d) : ∀ m path used, lv d m path used ≠ [] := by
  intro m
  induction m with
  | zero => intro path used; simp [lv]
  | succ m ih =>
    intro path used h
    rw [lv, List.flatMap_eq_nil_iff] at h
    exact ih _ _ (h 0 (List.mem_range.2 (by omega)))

theorem plan_iff {d : Nat} (hd : 1 ≤ d ∧ d ≤ 4) (c : Nat) : (planF a d (c + 1)).isSome = true ↔ goalM a ∈ nextF (nowF (maxF (chsF a d a.length [] 0)) c) (maxF (chsF a d a.length [] 0)) := by
  have hmem : ∀ o, o ∈ maxF (chsF a d a.length [] 0) → ∃ x, o = blk a x := by
    intro o ho
    obtain ⟨x, _, rfl⟩ := List.mem_map.1 (maxF_mem ho)
    exact ⟨x, rfl⟩
  rw [next_iff (fun o ho => by obtain ⟨x, rfl⟩ := hmem o ho; exact blk_sub f x), planF, Option.isSome_map, covF_iff _ _ _ (bad_lt f)]
  constructor
  · rintro ⟨l, h1, h2, h3⟩
    have h1' : ∀ o ∈ l, o ∈ maxF (chsF a d a.length [] 0) := fun o ho => mem_maxF.2 ((optF_mem f d o).1 (h1 o ho))
    obtain ⟨o0, ho0⟩ : ∃ o0, o0 ∈ maxF (chsF a d a.length [] 0) := by
      have hne := lv_ne f hd.1 a.length [] 0
      cases hl : lv d a.length [] 0 with
      | nil => exact absurd hl hne
      | cons x xs =>
        obtain ⟨o, h4, _⟩ := Mx_over (l := chsF a d a.length [] 0) (y := blk a x) (by simp [chsF, hl])
        exact ⟨o, mem_maxF.2 h4⟩
    refine ⟨l ++ List.replicate (c + 1 - l.length) o0, ?_, by simp; omega, ?_⟩
    · intro o ho
      rcases List.mem_append.1 ho with h | h
      · exact h1' o h
      · rw [(List.mem_replicate.1 h).2]; exact ho0
    · have hall : ∀ o ∈ l ++ List.replicate (c + 1 - l.length) o0, ∃ x, o = blk a x := by
        intro o ho
        rcases List.mem_append.1 ho with h | h
        · exact hmem o (h1' o h)
        · rw [(List.mem_replicate.1 h).2]; exact hmem o0 ho0
      refine Sub.antisymm (fun i hi => ?_) (fun i hi => ?_)
      · obtain ⟨o, h4, h5⟩ := (orL_bit _ i).1 hi
        obtain ⟨x, rfl⟩ := hall o h4
        exact blk_sub f x i h5
      · by_cases hb : (badM a).testBit i = true
        · obtain ⟨o, h4, h5⟩ := (orL_bit _ i).1 (h3 i hb)
          exact (orL_bit _ i).2 ⟨o, List.mem_append_left _ h4, h5⟩
        · have : ∃ o, o ∈ l ++ List.replicate (c + 1 - l.length) o0 := by
            cases l with
            | nil => exact ⟨o0, by simp⟩
            | cons y ys => exact ⟨y, by simp⟩
          obtain ⟨o, ho⟩ := this
          obtain ⟨x, rfl⟩ := hall o ho
          exact (orL_bit _ i).2 ⟨_, ho, goal_or f x hi hb⟩
  · rintro ⟨l, h1, h2, h3⟩
    exact ⟨l, fun o ho => (optF_mem f d o).2 (mem_maxF.1 (h1 o ho)), by omega, by rw [h3]; exact bad_sub f⟩
theorem least_ref {d : Nat} (hd : 1 ≤ d ∧ d ≤ 4) : ∀ n, leastN a d n = refN (maxF (chsF a d a.length [] 0)) (goalM a) n := by
  intro n
  induction n with
  | zero => rfl
  | succ n ih =>
    rw [leastN, refN, ih]
    have := plan_iff f hd n
    by_cases h : (planF a d (n + 1)).isSome = true
    · rw [if_pos h, if_pos (this.1 h)]
    · rw [if_neg h, if_neg (fun h2 => h (this.2 h2))]

/-! ### What Plan returns -/
theorem covF_some {d : Int} {l : List (Nat × List Int)} (hl : ∀ p ∈ l, p.1 = blk a p.2 ∧ Dep p.2 a.length d) : ∀ {c need r}, covF l c need = some r → Sub need (orL (r.map (blk a))) ∧ ∀ x ∈ r, Dep x a.length d := by
  intro c
  induction c with
  | zero =>
    intro need r h
    rw [covF] at h
    split at h
    · rename_i h0; cases h; subst h0; exact ⟨fun i hi => by simp at hi, by simp⟩
    · cases h
  | succ c ih =>
    intro need r h
    rw [covF] at h
    split at h
    · rename_i h0; cases h; subst h0; exact ⟨fun i hi => by simp at hi, by simp⟩
    · obtain ⟨x, hx, h1⟩ := List.exists_of_findSome?_eq_some h
      split at h1
      · cases h1
      · obtain ⟨r', h2, rfl⟩ := Option.map_eq_some_iff.1 h1
        obtain ⟨g1, g2⟩ := ih h2
        obtain ⟨e1, e2⟩ := hl x hx
        refine ⟨fun i hi => ?_, fun y hy => ?_⟩
        · rw [orL_bit]
          by_cases hxi : x.1.testBit i = true
          · exact ⟨blk a x.2, by simp, by rw [← e1]; exact hxi⟩
          · have : (diffN need x.1).testBit i = true := by rw [diffN_bit, hi]; simp [hxi]
            obtain ⟨o, h3, h4⟩ := (orL_bit _ i).1 (g1 i this)
            exact ⟨o, by rw [List.map_append]; exact List.mem_append_left _ h3, h4⟩
        · rcases List.mem_append.1 hy with h3 | h3
          · exact g2 y h3
          · simp at h3; subst h3; exact e2
theorem opt_ok (d : Nat) : ∀ p ∈ optF a d, p.1 = blk a p.2 ∧ Dep p.2 a.length d := fun p hp =>
  have h := (List.mem_filter.1 hp).1
  ⟨(accF_ok a d).eq p h, (accF_ok a d).dep p h⟩
theorem ones_dep {d : Int} (hd : 1 ≤ d) : Dep ones a.length d := by
  intro i hi
  have := f.keys
  have : i = 0 ∨ i = 1 ∨ i = 2 ∨ i = 3 ∨ i = 4 ∨ i = 5 := by omega
  rcases this with rfl | rfl | rfl | rfl | rfl | rfl <;> (show (1 : Int) ≤ 1 ∧ (1 : Int) ≤ d; omega)
theorem plan_ok {d c : Nat} (hd : 1 ≤ d ∧ d ≤ 4) {l : List (List Int)} (h : planF a d c = some l) : l.length = c ∧ (∀ x ∈ l, Dep x a.length d) ∧ Sub (badM a) (orL (l.map (blk a))) := by
  rw [planF] at h
  obtain ⟨r, h1, rfl⟩ := Option.map_eq_some_iff.1 h
  have hl := covF_len h1
  obtain ⟨g1, g2⟩ := covF_some f (d := d) (opt_ok f d) h1
  refine ⟨by simp; omega, fun x hx => ?_, fun i hi => ?_⟩
  · rcases List.mem_append.1 hx with h2 | h2
    · exact g2 x h2
    · rw [(List.mem_replicate.1 h2).2]; exact ones_dep f (by omega)
  · obtain ⟨o, h2, h3⟩ := (orL_bit _ i).1 (g1 i hi)
    exact (orL_bit _ i).2 ⟨o, by rw [List.map_append]; exact List.mem_append_left _ h2, h3⟩

section
variable {d : Nat} (hd : 1 ≤ d ∧ d ≤ 4) {l : List (List Int)} (hl : 1 ≤ l.length ∧ l.length ≤ 4) (hdep : ∀ x ∈ l, Dep x a.length d)
include hd hl hdep
theorem cuts_fit : Fit a (cutsOf a l) d := by
  have hk := f.keys
  have hrow : ∀ i, i < a.length → nth (cutsOf a l) i = l.map fun x => nth x i := fun i hi => nth_map_range _ _ _ hi
  have h0 : (nth (cutsOf a l) 0).length = l.length := by rw [hrow 0 (by omega), List.length_map]
  refine ⟨f.keys, f.locks, f.row, f.bit, by omega, by simp [cutsOf], by omega, fun i hi => ?_, fun i c hi hc => ?_⟩
  · rw [h0, hrow i hi, List.length_map]
  · rw [h0] at hc
    show 1 ≤ nth (nth (cutsOf a l) i) c ∧ nth (nth (cutsOf a l) i) c ≤ d
    rw [hrow i hi]
    have : nth (l.map fun x => nth x i) c = nth (nth l c) i := by simp [nth, hc]
    rw [this]
    exact hdep _ (nth_mem hc) i hi
theorem cuts_pin {c : Nat} (hc : c < l.length) (j : Nat) (e : Int) : pinB a (cutsOf a l) j c e = pinB a (col a (nth l c)) j 0 e := by
  rw [Bool.eq_iff_iff]
  simp only [pinB, List.any_eq_true, List.mem_range, Bool.and_eq_true, decide_eq_true_eq]
  have key : ∀ i, i < a.length → at2 (cutsOf a l) i c = at2 (col a (nth l c)) i 0 := by
    intro i hi
    rw [col_at hi]
    show nth (nth (cutsOf a l) i) c = _
    have hrow : nth (cutsOf a l) i = l.map fun x => nth x i := nth_map_range _ _ _ hi
    rw [hrow]
    simp [nth, hc]
  constructor
  · rintro ⟨i, hi, h1, h2⟩; exact ⟨i, hi, h1, by rw [← key i hi]; exact h2⟩
  · rintro ⟨i, hi, h1, h2⟩; exact ⟨i, hi, h1, by rw [key i hi]; exact h2⟩
theorem cuts_right (hs : Sub (badM a) (orL (l.map (blk a)))) : wrongL a (cutsOf a l) a.length = [] := by
  have hk := f.keys
  have hlo := f.locks
  rw [wrongL, List.flatMap_eq_nil_iff]
  intro k hk2
  have hk2 := List.mem_range.1 hk2
  rw [wrongRow, List.flatMap_eq_nil_iff]
  intro j hj
  have hj := List.mem_range.1 hj
  rw [f.row k hk2] at hj
  rw [if_neg]
  rintro ⟨h0, ho⟩
  have hrow : nth (cutsOf a l) k = l.map fun x => nth x k := nth_map_range _ _ _ hk2
  rw [opensB, List.all_eq_true, hrow, List.length_map] at ho
  have hpin : ∀ c, c < l.length → pinB a (col a (nth l c)) j 0 (nth (nth l c) k) = true := by
    intro c hc
    have := ho c (List.mem_range.2 hc)
    rw [cuts_pin f hd hl hdep hc] at this
    have e : nth (l.map fun x => nth x k) c = nth (nth l c) k := by simp [nth, hc]
    rwa [e] at this
  by_cases hb : ((List.range a.length).any fun o => decide (at2 a o j = 1)) = true
  · have hbit : (badM a).testBit (k * 6 + j) = true := by
      rw [bad_bits f k j (by omega)]
      simp only [badP, decide_eq_true hk2, decide_eq_true hj, decide_eq_true h0, Bool.true_and]
      exact hb
    obtain ⟨o, h1, h2⟩ := (orL_bit _ _).1 (hs _ hbit)
    obtain ⟨x, hx, rfl⟩ := List.mem_map.1 h1
    rw [blk_bits f x k j (by omega)] at h2
    simp only [blkP, barB, Bool.and_eq_true, Bool.not_eq_true'] at h2
    obtain ⟨c, hc, rfl⟩ := List.getElem_of_mem hx
    rw [← nth_getElem hc] at h2
    rw [hpin c hc] at h2; cases h2.2
  · have := hpin 0 (by omega)
    rw [pinB, List.any_eq_true] at this
    obtain ⟨i, hi, h1⟩ := this
    simp only [Bool.and_eq_true] at h1
    exact hb (List.any_eq_true.2 ⟨i, hi, h1.1⟩)
end
end
end Go.Proofs.Ytkjdnnedncomgaa
