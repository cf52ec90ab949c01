/-
  The plain law of LocksKeys: keys counted one by one come to the product over the chambers.
-/
import Derived.Test.YtkjdnnedncomgaaL5F
set_option linter.unusedVariables false
set_option linter.unusedSimpArgs false
set_option maxRecDepth 10000
namespace Go.Proofs.Ytkjdnnedncomgaa
open Go Go.Am

theorem sumN_add (f g : Nat → Int) (n : Nat) : sumN (fun i => f i + g i) n = sumN f n + sumN g n := by
  induction n with
  | zero => rfl
  | succ n ih => simp only [sumN, ih]; omega
theorem sumN_mul (f : Nat → Int) (k : Int) (n : Nat) : sumN (fun i => f i * k) n = sumN f n * k := by
  induction n with
  | zero => simp [sumN]
  | succ n ih => simp only [sumN, ih, Int.add_mul]
theorem sumN_split (f : Nat → Int) (m n : Nat) : sumN f (m + n) = sumN f m + sumN (fun i => f (m + i)) n := by
  induction n with
  | zero => simp [sumN]
  | succ n ih => rw [← Nat.add_assoc, sumN, ih, sumN]; omega
/-- A sum over m times n numbers, block by block. -/
theorem sumN_blocks (f : Nat → Int) (m n : Nat) : sumN f (m * n) = sumN (fun q => sumN (fun r => f (m * q + r)) m) n := by
  induction n with
  | zero => simp [sumN]
  | succ n ih => rw [Nat.mul_succ, sumN_split, ih, sumN]
theorem sumN_mono {f g : Nat → Int} : ∀ {n : Nat}, (∀ i, i < n → f i ≤ g i) → sumN f n ≤ sumN g n
  | 0, _ => by simp [sumN]
  | n + 1, h => by
    have := sumN_mono (n := n) fun i hi => h i (Nat.lt_succ_of_lt hi)
    have := h n (Nat.lt_succ_self n)
    simp only [sumN]; omega

/-- The digits of a number, as depths. -/
def digit (d m j : Nat) : Int := 1 + ((m / d ^ j % d : Nat) : Int)
def keyOf (d c m : Nat) : List Int := (List.range c).map (digit d m)

/-- A product of tests over the first c chambers. -/
def testP (t : Nat → Int → Bool) (d : Nat) (m : Nat) : Nat → Bool
  | 0 => true
  | c + 1 => testP t d m c && t c (digit d m c)

theorem testP_low (t : Nat → Int → Bool) {d : Nat} (hd : 0 < d) (q r : Nat) : ∀ c e, c ≤ e → r < d ^ e → testP t d (d ^ e * q + r) c = testP t d r c := by
  intro c
  induction c with
  | zero => intro e _ _; rfl
  | succ c ih =>
    intro e hc hr
    rw [testP, testP, ih e (by omega) hr]
    congr 2
    unfold digit
    congr 2
    obtain ⟨k, rfl⟩ : ∃ k, e = c + (k + 1) := ⟨e - c - 1, by omega⟩
    have hpos : 0 < d ^ c := Nat.pow_pos hd
    have e1 : d ^ (c + (k + 1)) * q + r = r + d ^ c * (d * (d ^ k * q)) := by
      rw [Nat.pow_add, Nat.pow_succ, Nat.add_comm]
      congr 1
      rw [Nat.mul_assoc, Nat.mul_comm (d ^ k) d, Nat.mul_assoc]
    rw [e1, Nat.add_mul_div_left _ _ hpos, Nat.add_mul_mod_self_left]

/-- Counted one by one: the product of the counts. -/
theorem count_prod (t : Nat → Int → Bool) {d : Nat} (hd : 0 < d) : ∀ c, sumN (fun m => if testP t d m c then 1 else 0) (d ^ c) = prodN (fun j => sumN (fun x => if t j ((x : Int) + 1) then 1 else 0) d) c := by
  intro c
  induction c with
  | zero => simp [sumN, prodN, testP]
  | succ c ih =>
    rw [Nat.pow_succ, sumN_blocks, prodN, ← ih]
    have hpos : 0 < d ^ c := Nat.pow_pos hd
    have inner : ∀ q, q < d → sumN (fun r => if testP t d (d ^ c * q + r) (c + 1) then 1 else 0) (d ^ c) = (if t c ((q : Int) + 1) then 1 else 0) * sumN (fun m => if testP t d m c then 1 else 0) (d ^ c) := by
      intro q hq
      rw [Int.mul_comm, ← sumN_mul]
      refine sumN_congr fun r hr => ?_
      have hdg : digit d (d ^ c * q + r) c = (q : Int) + 1 := by
        unfold digit
        rw [Nat.add_comm (d ^ c * q) r, Nat.add_mul_div_left _ _ hpos, Nat.div_eq_of_lt hr, Nat.zero_add, Nat.mod_eq_of_lt hq]
        omega
      rw [testP, testP_low t hd q r c c (Nat.le_refl _) hr, hdg]
      cases testP t d r c <;> cases t c ((q : Int) + 1) <;> simp
    rw [sumN_congr inner, sumN_mul, Int.mul_comm]

theorem testP_all (t : Nat → Int → Bool) (d m c : Nat) : testP t d m c = (List.range c).all fun j => t j (digit d m j) := by
  induction c with
  | zero => rfl
  | succ c ih => rw [testP, ih, List.range_succ, List.all_append]; simp

theorem keyOf_len (d c m : Nat) : (keyOf d c m).length = c := by simp [keyOf]
theorem keyOf_nth {d c m j : Nat} (hj : j < c) : nth (keyOf d c m) j = digit d m j := nth_map_range _ _ _ hj

theorem opens_key (a p : List (List Int)) (lock d c m : Nat) : opensB a p (keyOf d c m) lock = testP (fun j x => pinB a p lock j x) d m c := by
  rw [testP_all, opensB, keyOf_len, Bool.eq_iff_iff]
  simp only [List.all_eq_true, List.mem_range]
  constructor
  · intro h j hj; have := h j hj; rwa [keyOf_nth hj] at this
  · intro h j hj; rw [keyOf_nth hj]; exact h j hj

def countC (a p : List (List Int)) (lock d c n : Nat) : Int := sumN (fun m => if opensB a p (keyOf d c m) lock then 1 else 0) n
def foundB (a p : List (List Int)) (lock : Nat) (key : List Int) (n : Nat) : Bool := (List.range n).any fun i => decide (at2 a i lock = 1) && decide (nth p i = key)
def meantC (a p : List (List Int)) (lock d c n : Nat) : Int := sumN (fun m => if foundB a p lock (keyOf d c m) a.length then 1 else 0) n

theorem count_all {a p : List (List Int)} {d : Nat} (f : Fit a p d) (lock : Nat) : countC a p lock d (nth p 0).length (d ^ (nth p 0).length) = strangersB a p d lock := by
  have hd := f.depth
  have e := count_prod (fun j x => pinB a p lock j x) (d := d) (by omega) (nth p 0).length
  unfold countC strangersB cntB
  rw [sumN_congr (fun m _ => by rw [opens_key]), e]
  simp only [Int.toNat_natCast]

theorem meant_le {a p : List (List Int)} {d : Nat} (f : Fit a p d) {lock : Nat} (hl : lock < (nth a 0).length) (n : Nat) : meantC a p lock d (nth p 0).length n ≤ countC a p lock d (nth p 0).length n := by
  refine sumN_mono fun m _ => ?_
  cases hf : foundB a p lock (keyOf d (nth p 0).length m) a.length with
  | false => simp only [Bool.false_eq_true, if_false]; split <;> omega
  | true =>
    have : opensB a p (keyOf d (nth p 0).length m) lock = true := by
      rw [foundB, List.any_eq_true] at hf
      obtain ⟨i, hi, h⟩ := hf
      simp only [Bool.and_eq_true, decide_eq_true_eq] at h
      rw [opensB, List.all_eq_true]
      intro j hj
      rw [pinB, List.any_eq_true]
      exact ⟨i, hi, by rw [Bool.and_eq_true, decide_eq_true_eq, decide_eq_true_eq]; exact ⟨h.1, by show nth (nth p i) j = _; rw [h.2]⟩⟩
    rw [this]; exact Int.le_refl _
theorem countC_bounds (a p : List (List Int)) (lock d c n : Nat) : 0 ≤ countC a p lock d c n ∧ countC a p lock d c n ≤ n := by
  have := sumN_bounds (f := fun m => if opensB a p (keyOf d c m) lock then 1 else 0) (lo := 0) (hi := 1) (n := n) (fun i _ => by split <;> omega)
  unfold countC; omega
theorem meantC_bounds (a p : List (List Int)) (lock d c n : Nat) : 0 ≤ meantC a p lock d c n ∧ meantC a p lock d c n ≤ n := by
  have := sumN_bounds (f := fun m => if foundB a p lock (keyOf d c m) a.length then 1 else 0) (lo := 0) (hi := 1) (n := n) (fun i _ => by split <;> omega)
  unfold meantC; omega

/-- The cuts, the first i rows cut to c chambers. -/
def cutP (rows : List (List Int)) (c i : Nat) : List (List Int) := (List.range rows.length).map fun r => if r < i then (nth rows r).take c else nth rows r
theorem cutP_len (rows : List (List Int)) (c i : Nat) : (cutP rows c i).length = rows.length := by simp [cutP]
theorem cutP_nth {rows : List (List Int)} {c i r : Nat} (hr : r < rows.length) : nth (cutP rows c i) r = if r < i then (nth rows r).take c else nth rows r := nth_map_range _ _ _ hr
theorem cutP_zero (rows : List (List Int)) (c : Nat) : cutP rows c 0 = rows := by
  refine list_ext_nth (cutP_len _ _ _) fun j hj => ?_
  rw [cutP_len] at hj
  rw [cutP_nth hj]; simp
theorem cutP_set {rows : List (List Int)} {c i : Nat} (hi : i < rows.length) : (cutP rows c i).set i ((nth rows i).take c) = cutP rows c (i + 1) := by
  refine list_ext_nth (by simp [cutP_len]) fun j hj => ?_
  rw [List.length_set, cutP_len] at hj
  rw [nth_set _ _ _ _ (by rw [cutP_len]; exact hi), cutP_nth hj, cutP_nth hj]
  by_cases h : i = j
  · subst h; simp
  · rw [if_neg h]
    by_cases h2 : j < i
    · rw [if_pos h2, if_pos (by omega)]
    · rw [if_neg h2, if_neg (by omega)]
theorem nth_take {xs : List Int} {c j : Nat} (hj : j < c) : nth (xs.take c) j = nth xs j := by simp [nth, List.getElem?_take, hj]

theorem tamedM_len (a : List (List Int)) (k d : Int) : (tamedM a k d).length = k.toNat := by simp [tamedM]
theorem tamedM_row {a : List (List Int)} {k d : Int} {i : Nat} (hi : i < k.toNat) : nth (tamedM a k d) i = tamedRow a d i (tamedC a).toNat := nth_map_range _ _ _ hi
theorem tamedRow_len (a : List (List Int)) (d : Int) (i j : Nat) : (tamedRow a d i j).length = (tamedC a).toNat := fillR_len _ _ _ _
theorem tamedRow_ok {a : List (List Int)} {d : Int} (hd : 1 ≤ d) {i j : Nat} (hj : j < (tamedC a).toNat) : 1 ≤ nth (tamedRow a d i (tamedC a).toNat) j ∧ nth (tamedRow a d i (tamedC a).toNat) j ≤ d := by
  rw [tamedRow, fillR_nth hj, if_pos hj]
  split
  · have := modI_bounds (at2 a i j - 1) (n := d) (by omega); omega
  · omega
/-- The tamed cuts, cut to at most 3 chambers, are cuts. -/
theorem cutP_cuts (a : List (List Int)) {k d : Int} (hk : 1 ≤ k) (hd : 1 ≤ d ∧ d ≤ 4) {c : Nat} (hc : 1 ≤ c ∧ c ≤ (tamedC a).toNat) : areCutsB (cutP (tamedM a k d) c (tamedM a k d).length) k d = true := by
  have hC := tamedC_bounds a
  have hlen := tamedM_len a k d
  have hrow : ∀ r, r < k.toNat → nth (cutP (tamedM a k d) c (tamedM a k d).length) r = (tamedRow a d r (tamedC a).toNat).take c := by
    intro r hr
    rw [cutP_nth (by omega), if_pos (by omega), tamedM_row hr]
  have hrl : ∀ r, ((tamedRow a d r (tamedC a).toNat).take c).length = c := by
    intro r; rw [List.length_take, tamedRow_len]; omega
  simp only [areCutsB, Bool.and_eq_true, decide_eq_true_eq]
  refine ⟨⟨⟨hd, by rw [cutP_len]; omega⟩, by rw [hrow 0 (by omega), hrl]; omega⟩, all_of_nth fun r hr => ?_⟩
  rw [cutP_len, hlen] at hr
  rw [hrow r hr, hrow 0 (by omega), hrl, hrl]
  simp only [decide_true, Bool.true_and]
  refine all_of_nth fun j hj => ?_
  rw [hrl] at hj
  rw [nth_take hj]
  have := tamedRow_ok (a := a) (d := d) hd.1 (i := r) (j := j) (by omega)
  simpa only [decide_eq_true_eq] using this
end Go.Proofs.Ytkjdnnedncomgaa
