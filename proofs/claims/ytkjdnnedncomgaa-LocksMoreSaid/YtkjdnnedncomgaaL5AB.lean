/-
  The program's 'cover', 'plan', Least.
-/
import Derived.Test.YtkjdnnedncomgaaL5AA
import Derived.Test.YtkjdnnedncomgaaAmMore
set_option linter.unusedVariables false
set_option linter.unusedSimpArgs false
set_option maxRecDepth 10000
namespace Go.Proofs.Ytkjdnnedncomgaa
open Go Go.Am

variable {h h' : Hp} {K : AV → Hp → Prop}

/-- Chambers that keep apart what is needed. -/
def covF (l : List (Nat × List Int)) : Nat → Nat → Option (List (List Int))
  | 0, need => if need = 0 then some [] else none
  | c + 1, need => if need = 0 then some [] else l.findSome? fun x => if x.1 &&& lowN need = 0 then none else (covF l c (diffN need x.1)).map fun r => r ++ [x.2]
theorem covF_len {l : List (Nat × List Int)} : ∀ {c need r}, covF l c need = some r → r.length ≤ c := by
  intro c
  induction c with
  | zero =>
    intro need r h
    rw [covF] at h
    split at h
    · cases h; simp
    · cases h
  | succ c ih =>
    intro need r h
    rw [covF] at h
    split at h
    · cases h; simp
    · obtain ⟨x, _, hx⟩ := List.exists_of_findSome?_eq_some h
      split at hx
      · cases hx
      · obtain ⟨r', h1, rfl⟩ := Option.map_eq_some_iff.1 hx
        have := ih h1
        simp; omega

def covR (o : Option (List (List Int))) : AV := .tup [.fresh 6 ((o.getD []).flatMap eC), .bool o.isSome]
abbrev zero7 : List AV := [I 0, I 0, I 0, I 0, I 0, I 0, I 0]
theorem ld69 (n : Int) (x : List Int) : loadC (some (.array 6 3)) (some 6) (some (I n :: eC x, 1)) = some (.agg (eC x)) := by
  simp [loadC, loadB, aggD, eC_eq]

theorem f51_con {l : List (Nat × List Int)} (hl : l.length ≤ 4096) (hp : ∀ p ∈ l, p.1 < 2 ^ 36) : ∀ (c need : Nat), c ≤ 4 → need < 2 ^ 36 → Con Try.prog cfg 51 [L eO l, I need, I c] (covR (covF l c need)) := by
  intro c
  induction c with
  | zero =>
    intro need _ hn
    have hexT := fun h : Hp => export_pair_fresh (P := Try.prog) (h := h) (f := eC) false 65 4 69 und65 isz69 (v := .nil) (w := .bool true) (xs := []) (.inl ⟨rfl, rfl⟩) rfl (by simp)
    have hexF := fun h : Hp => export_pair_fresh (P := Try.prog) (h := h) (f := eC) false 65 4 69 und65 isz69 (v := .nil) (w := .bool false) (xs := []) (.inl ⟨rfl, rfl⟩) rfl (by simp)
    refine Con_intro Try.func51 rfl ok51 (Nat.le_of_ble_eq_true rfl) rfl ?_
    simp only [Try.f51, Option.getD_some, initSt3]
    by_cases h0 : need = 0
    · subst h0
      simp (disch := first | (simp only [go_sem, Bool.and_self, eq_self]; done) | omega | (simp only [List.length_cons, List.length_nil]; omega)) only [go_sem, ↓reduceIte, Nat.reduceEqDiff, Nat.reduceAdd, Nat.reduceMul, Nat.reduceSub, Int.reduceToNat, hexT, Int.natCast_zero]
      rfl
    · have h0' : ¬ (need : Int) = 0 := by omega
      have e : covF l 0 need = none := by rw [covF, if_neg h0]
      simp (disch := first | (simp only [go_sem, Bool.and_self, eq_self]; done) | omega | (simp only [List.length_cons, List.length_nil]; omega)) only [go_sem, ↓reduceIte, Nat.reduceEqDiff, Nat.reduceAdd, Nat.reduceMul, Nat.reduceSub, Int.reduceToNat, hexF, h0', Int.natCast_zero, e]
      rfl
  | succ c ih =>
    intro need hc hn
    have hexT := fun h : Hp => export_pair_fresh (P := Try.prog) (h := h) (f := eC) false 65 4 69 und65 isz69 (v := .nil) (w := .bool true) (xs := []) (.inl ⟨rfl, rfl⟩) rfl (by simp)
    have hexF := fun h : Hp => export_pair_fresh (P := Try.prog) (h := h) (f := eC) false 65 4 69 und65 isz69 (v := .nil) (w := .bool false) (xs := []) (.inl ⟨rfl, rfl⟩) rfl (by simp)
    refine Con_intro Try.func51 rfl ok51 (Nat.le_of_ble_eq_true rfl) rfl ?_
    simp only [Try.f51, Option.getD_some, initSt3]
    by_cases h0 : need = 0
    · subst h0
      have e : covF l (c + 1) 0 = some [] := by rw [covF, if_pos rfl]
      simp (disch := first | (simp only [go_sem, Bool.and_self, eq_self]; done) | omega | (simp only [List.length_cons, List.length_nil]; omega)) only [go_sem, ↓reduceIte, Nat.reduceEqDiff, Nat.reduceAdd, Nat.reduceMul, Nat.reduceSub, Int.reduceToNat, hexT, Int.natCast_zero, e]
      rfl
    have h0' : ¬ (need : Int) = 0 := by omega
    have hc0 : ¬ ((c + 1 : Nat) : Int) = 0 := by omega
    have hneg : IntKind.i64.wrap (0 - (need : Int)) = -(need : Int) := by rw [wrap_ok _ (by omega) (by omega)]; omega
    have hlow := low_ok (P := Try.prog) 80 need (by omega)
    simp (disch := first | (simp only [go_sem, Bool.and_self, eq_self]; done) | omega | (simp only [List.length_cons, List.length_nil]; omega)) only [go_sem, ↓reduceIte, Nat.reduceEqDiff, Nat.reduceAdd, Nat.reduceMul, Nat.reduceSub, Int.reduceToNat, h0', hc0, hneg, hlow]
    let g : Nat × List Int → Option (List (List Int)) := fun x => if x.1 &&& lowN need = 0 then none else (covF l c (diffN need x.1)).map fun r => r ++ [x.2]
    have hcov : covF l (c + 1) need = l.findSome? g := by rw [covF, if_neg h0]
    refine WP_for 23 l.length (fun i st h => st 0 = L eO l ∧ st 1 = I need ∧ st 2 = I ((c + 1 : Nat) : Int) ∧ st 8 = I (lowN need) ∧ st 21 = L eO l ∧ st 22 = I l.length ∧ ∀ j, j < i → g (nth l j) = none) (by simp (disch := first | (simp only [go_sem, Bool.and_self, eq_self]; done) | omega | (simp only [List.length_cons, List.length_nil]; omega)) only [go_sem, ↓reduceIte, Nat.reduceEqDiff, Nat.reduceAdd, Nat.reduceMul, Nat.reduceSub, Int.reduceToNat]) ⟨by simp (disch := first | (simp only [go_sem, Bool.and_self, eq_self]; done) | omega | (simp only [List.length_cons, List.length_nil]; omega)) only [go_sem, ↓reduceIte, Nat.reduceEqDiff, Nat.reduceAdd, Nat.reduceMul, Nat.reduceSub, Int.reduceToNat], by simp (disch := first | (simp only [go_sem, Bool.and_self, eq_self]; done) | omega | (simp only [List.length_cons, List.length_nil]; omega)) only [go_sem, ↓reduceIte, Nat.reduceEqDiff, Nat.reduceAdd, Nat.reduceMul, Nat.reduceSub, Int.reduceToNat], by simp (disch := first | (simp only [go_sem, Bool.and_self, eq_self]; done) | omega | (simp only [List.length_cons, List.length_nil]; omega)) only [go_sem, ↓reduceIte, Nat.reduceEqDiff, Nat.reduceAdd, Nat.reduceMul, Nat.reduceSub, Int.reduceToNat], by simp (disch := first | (simp only [go_sem, Bool.and_self, eq_self]; done) | omega | (simp only [List.length_cons, List.length_nil]; omega)) only [go_sem, ↓reduceIte, Nat.reduceEqDiff, Nat.reduceAdd, Nat.reduceMul, Nat.reduceSub, Int.reduceToNat], by simp (disch := first | (simp only [go_sem, Bool.and_self, eq_self]; done) | omega | (simp only [List.length_cons, List.length_nil]; omega)) only [go_sem, ↓reduceIte, Nat.reduceEqDiff, Nat.reduceAdd, Nat.reduceMul, Nat.reduceSub, Int.reduceToNat], by simp (disch := first | (simp only [go_sem, Bool.and_self, eq_self]; done) | omega | (simp only [List.length_cons, List.length_nil]; omega)) only [go_sem, ↓reduceIte, Nat.reduceEqDiff, Nat.reduceAdd, Nat.reduceMul, Nat.reduceSub, Int.reduceToNat], by omega⟩ ?_
    rintro i st h hi s23 ⟨s0, s1, s2, s8, s21, s22, hnone⟩
    by_cases hlt : i < l.length
    case neg =>
      have e : covF l (c + 1) need = none := by rw [hcov]; exact findSome_none fun j hj => hnone j (by omega)
      simp (disch := first | (simp only [go_sem, Bool.and_self, eq_self]; done) | omega | (simp only [List.length_cons, List.length_nil]; omega)) only [go_sem, ↓reduceIte, Nat.reduceEqDiff, Nat.reduceAdd, Nat.reduceMul, Nat.reduceSub, Int.reduceToNat, s0, s1, s2, s8, s21, s22, s23, hlt, hexF, e]
      rfl
    have hp36 := hp _ (nth_mem hlt)
    have hst2 : ∀ (h : Hp) (id : Nat), storeC h id 0 7 (some (.cells false false zero7)) (eO (nth l i)) = some (.skp, h.put id (some (.cells false false (eO (nth l i))))) := fun h id => storeC_row id false zero7 (nth l i) rfl
    have hld := loadC_row (f := eO) (.struct #[{ name := "pairs", type := 80, offset := 0, embedded := true, tag := "", pkgPath := "turndown/locks", byteOffset := 0 }, { name := "colouring", type := 69, offset := 1, embedded := true, tag := "", pkgPath := "turndown/locks", byteOffset := 8 }]) rfl (nth l i)
    generalize hx : nth l i = x at *
    have hg0 : (eO x)[0]? = some (I x.1) := rfl
    have heo : eO x = I x.1 :: eC x.2 := rfl
    have hl69 := ld69 x.1 x.2
    rw [← heo] at hl69
    have hand := binA_and (P := Try.prog) 80 x.1 (lowN need) (by omega) (by have := lowN_lt (n := need) (by omega); omega)
    by_cases hz : x.1 &&& lowN need = 0
    · have hz' : ((x.1 &&& lowN need : Nat) : Int) = 0 := by omega
      simp (disch := first | (simp only [go_sem, Bool.and_self, eq_self]; done) | omega | (simp only [List.length_cons, List.length_nil]; omega)) only [go_sem, ↓reduceIte, Nat.reduceEqDiff, Nat.reduceAdd, Nat.reduceMul, Nat.reduceSub, Int.reduceToNat, s0, s1, s2, s8, s21, s22, s23, hlt, hx, hld, hst2, hg0, hand, hz, Int.natCast_zero]
      rw [ForK_normal]
      refine ⟨hlt, by simp (disch := first | (simp only [go_sem, Bool.and_self, eq_self]; done) | omega | (simp only [List.length_cons, List.length_nil]; omega)) only [go_sem, ↓reduceIte, Nat.reduceEqDiff, Nat.reduceAdd, Nat.reduceMul, Nat.reduceSub, Int.reduceToNat, s23], by simp (disch := first | (simp only [go_sem, Bool.and_self, eq_self]; done) | omega | (simp only [List.length_cons, List.length_nil]; omega)) only [go_sem, ↓reduceIte, Nat.reduceEqDiff, Nat.reduceAdd, Nat.reduceMul, Nat.reduceSub, Int.reduceToNat, s0], by simp (disch := first | (simp only [go_sem, Bool.and_self, eq_self]; done) | omega | (simp only [List.length_cons, List.length_nil]; omega)) only [go_sem, ↓reduceIte, Nat.reduceEqDiff, Nat.reduceAdd, Nat.reduceMul, Nat.reduceSub, Int.reduceToNat, s1], by simp (disch := first | (simp only [go_sem, Bool.and_self, eq_self]; done) | omega | (simp only [List.length_cons, List.length_nil]; omega)) only [go_sem, ↓reduceIte, Nat.reduceEqDiff, Nat.reduceAdd, Nat.reduceMul, Nat.reduceSub, Int.reduceToNat, s2], by simp (disch := first | (simp only [go_sem, Bool.and_self, eq_self]; done) | omega | (simp only [List.length_cons, List.length_nil]; omega)) only [go_sem, ↓reduceIte, Nat.reduceEqDiff, Nat.reduceAdd, Nat.reduceMul, Nat.reduceSub, Int.reduceToNat, s8], by simp (disch := first | (simp only [go_sem, Bool.and_self, eq_self]; done) | omega | (simp only [List.length_cons, List.length_nil]; omega)) only [go_sem, ↓reduceIte, Nat.reduceEqDiff, Nat.reduceAdd, Nat.reduceMul, Nat.reduceSub, Int.reduceToNat, s21], by simp (disch := first | (simp only [go_sem, Bool.and_self, eq_self]; done) | omega | (simp only [List.length_cons, List.length_nil]; omega)) only [go_sem, ↓reduceIte, Nat.reduceEqDiff, Nat.reduceAdd, Nat.reduceMul, Nat.reduceSub, Int.reduceToNat, s22], fun j hj => ?_⟩
      rcases Nat.lt_or_ge j i with h1 | h1
      · exact hnone j h1
      · rw [show j = i by omega, hx]; exact if_pos hz
    · have hz' : ¬ ((x.1 &&& lowN need : Nat) : Int) = 0 := by omega
      have han := binA_andNot (P := Try.prog) 80 need x.1 (by omega) (by omega)
      have hdl : diffN need x.1 < 2 ^ 36 := diffN_lt hn
      have kk : ∀ h h' K, ConW Try.prog cfg 51 h (some ([L eO l, I (diffN need x.1), I c], h')) K = K (importR h' (covR (covF l c (diffN need x.1)))).1 (importR h' (covR (covF l c (diffN need x.1)))).2 := fun h h' K => ConW_any (ih _ (by omega) hdl) rfl
      have e1' : ((c + 1 : Nat) : Int) - 1 = (c : Int) := by omega
      cases hr : covF l c (diffN need x.1) with
      | none =>
        have e2 : ∀ h' : Hp, importR h' (covR none) = (.tup [.sl h'.nx 0 0 6, .bool false], h'.alloc (.cells false true [])) := fun _ => rfl
        simp (disch := first | (simp only [go_sem, Bool.and_self, eq_self]; done) | omega | (simp only [List.length_cons, List.length_nil]; omega)) only [go_sem, ↓reduceIte, Nat.reduceEqDiff, Nat.reduceAdd, Nat.reduceMul, Nat.reduceSub, Int.reduceToNat, s0, s1, s2, s8, s21, s22, s23, hlt, hx, hld, hst2, hg0, hand, hz', han, e1', kk, hr, e2]
        rw [ForK_normal]
        refine ⟨hlt, by simp (disch := first | (simp only [go_sem, Bool.and_self, eq_self]; done) | omega | (simp only [List.length_cons, List.length_nil]; omega)) only [go_sem, ↓reduceIte, Nat.reduceEqDiff, Nat.reduceAdd, Nat.reduceMul, Nat.reduceSub, Int.reduceToNat, s23], by simp (disch := first | (simp only [go_sem, Bool.and_self, eq_self]; done) | omega | (simp only [List.length_cons, List.length_nil]; omega)) only [go_sem, ↓reduceIte, Nat.reduceEqDiff, Nat.reduceAdd, Nat.reduceMul, Nat.reduceSub, Int.reduceToNat, s0], by simp (disch := first | (simp only [go_sem, Bool.and_self, eq_self]; done) | omega | (simp only [List.length_cons, List.length_nil]; omega)) only [go_sem, ↓reduceIte, Nat.reduceEqDiff, Nat.reduceAdd, Nat.reduceMul, Nat.reduceSub, Int.reduceToNat, s1], by simp (disch := first | (simp only [go_sem, Bool.and_self, eq_self]; done) | omega | (simp only [List.length_cons, List.length_nil]; omega)) only [go_sem, ↓reduceIte, Nat.reduceEqDiff, Nat.reduceAdd, Nat.reduceMul, Nat.reduceSub, Int.reduceToNat, s2], by simp (disch := first | (simp only [go_sem, Bool.and_self, eq_self]; done) | omega | (simp only [List.length_cons, List.length_nil]; omega)) only [go_sem, ↓reduceIte, Nat.reduceEqDiff, Nat.reduceAdd, Nat.reduceMul, Nat.reduceSub, Int.reduceToNat, s8], by simp (disch := first | (simp only [go_sem, Bool.and_self, eq_self]; done) | omega | (simp only [List.length_cons, List.length_nil]; omega)) only [go_sem, ↓reduceIte, Nat.reduceEqDiff, Nat.reduceAdd, Nat.reduceMul, Nat.reduceSub, Int.reduceToNat, s21], by simp (disch := first | (simp only [go_sem, Bool.and_self, eq_self]; done) | omega | (simp only [List.length_cons, List.length_nil]; omega)) only [go_sem, ↓reduceIte, Nat.reduceEqDiff, Nat.reduceAdd, Nat.reduceMul, Nat.reduceSub, Int.reduceToNat, s22], fun j hj => ?_⟩
        rcases Nat.lt_or_ge j i with h1 | h1
        · exact hnone j h1
        · rw [show j = i by omega, hx]
          show (if _ then _ else _) = _
          rw [if_neg hz, hr]; rfl
      | some rest =>
        have hrl := covF_len hr
        have e2 : ∀ h' : Hp, importR h' (covR (some rest)) = (.tup [.sl h'.nx 0 rest.length 6, .bool true], h'.alloc (.cells false true (rest.flatMap eC))) := by
          intro h'
          have : (rest.flatMap eC).length / 6 = rest.length := fresh_len (f := eC) rest
          show (AV.tup [.sl h'.nx 0 ((rest.flatMap eC).length / 6) 6, .bool true], h'.alloc (.cells false true (rest.flatMap eC))) = _
          rw [this]
        have hbs := fun h : Hp => bsB_row (P := Try.prog) (h := h) (f := eC) 69 x.2 [] isz69 izero69 (by decide)
        have hfin : covF l (c + 1) need = some (rest ++ [x.2]) := by
          rw [hcov]
          refine findSome_at g l i _ hlt (fun j hj => hnone j hj) ?_
          rw [hx]
          show (if _ then _ else _) = _
          rw [if_neg hz, hr]; rfl
        generalize hG : (h.alloc (.cells false false zero7)).put h.nx (some (.cells false false (eO x))) = G
        have hG1 : G.bl h.nx = some (.cells false false (eO x)) := by rw [← hG]; simp (disch := first | (simp only [go_sem, Bool.and_self, eq_self]; done) | omega | (simp only [List.length_cons, List.length_nil]; omega)) only [go_sem, ↓reduceIte, Nat.reduceEqDiff, Nat.reduceAdd, Nat.reduceMul, Nat.reduceSub, Int.reduceToNat]
        have hG2 : G.nx = h.nx + 1 := by rw [← hG]; simp (disch := first | (simp only [go_sem, Bool.and_self, eq_self]; done) | omega | (simp only [List.length_cons, List.length_nil]; omega)) only [go_sem, ↓reduceIte, Nat.reduceEqDiff, Nat.reduceAdd, Nat.reduceMul, Nat.reduceSub, Int.reduceToNat]
        have o1 : Own eC 6 (G.alloc (.cells false true (rest.flatMap eC))) (.sl G.nx 0 rest.length 6) rest := .inr ⟨G.nx, rfl, by rw [alloc_nx]; omega, by rw [alloc_bl, if_pos rfl]⟩
        have happ := app_row (P := Try.prog) o1 69 48 zero6 x.2 isz69 ibytes69 izero69 rfl (by omega) (by omega)
        have o2 := Own.app (f := eC) (sz := 6) (G.alloc (.cells false true (rest.flatMap eC))) (.sl G.nx 0 rest.length 6) (rest ++ [x.2])
        have hex2 := export_pair_fresh (P := Try.prog) (f := eC) false 65 4 69 und65 isz69 o2 (w := .bool true) rfl (by simp)
        have n1 : ¬ h.nx = G.nx := by omega
        simp (disch := first | (simp only [go_sem, Bool.and_self, eq_self]; done) | omega | (simp only [List.length_cons, List.length_nil]; omega)) only [go_sem, ↓reduceIte, Nat.reduceEqDiff, Nat.reduceAdd, Nat.reduceMul, Nat.reduceSub, Int.reduceToNat, s0, s1, s2, s8, s21, s22, s23, hlt, hx, hld, hst2, hG, hG1, hg0, hand, hz', han, e1', kk, hr, e2, n1, hl69, hbs, happ, hex2, hfin]
        rfl
theorem k51 {l : List (Nat × List Int)} (hl : l.length ≤ 4096) (hp : ∀ p ∈ l, p.1 < 2 ^ 36) {c need : Nat} (hc : c ≤ 4) (hn : need < 2 ^ 36) : ConW Try.prog cfg 51 h (some ([L eO l, I need, I c], h')) K =
    K (.tup [.sl h'.nx 0 ((covF l c need).getD []).length 6, .bool (covF l c need).isSome]) (h'.alloc (.cells false true (((covF l c need).getD []).flatMap eC))) := by
  rw [ConW_any (f51_con hl hp c need hc hn) rfl]
  have : ((((covF l c need).getD []).flatMap eC)).length / 6 = ((covF l c need).getD []).length := fresh_len (f := eC) _
  have e : importR h' (covR (covF l c need)) = (.tup [.sl h'.nx 0 ((((covF l c need).getD []).flatMap eC).length / 6) 6, .bool (covF l c need).isSome], h'.alloc (.cells false true (((covF l c need).getD []).flatMap eC))) := rfl
  rw [e, this]
end Go.Proofs.Ytkjdnnedncomgaa
