/-
  More rules: results handed over, slices of slices that are being built.
-/
import Derived.Test.YtihnplomlphfjaaAmFor
set_option linter.unusedVariables false
set_option linter.unusedSimpArgs false
namespace Go.Am
open Go

section
variable {P : Program} {cfg : Cfg} {st : St} {h : Hp} {Q : Exit → St → Hp → Prop}

@[go_sem] theorem importR_fresh2 (sz : Nat) (flat : List AV) (b : Bool) : importR h (.tup [.fresh sz flat, .bool b]) = (.tup [.sl h.nx 0 (flat.length / sz) sz, .bool b], h.alloc (.cells false true flat)) := rfl
/-! ### Results that are handed over whole, struct and all -/
/-! ### A call in a memory of its own, handed out in one way or another -/
/-! ### A slice of slices that are being built -/
structure RowsAt {α : Type} (f : α → List AV) (sz : Nat) (h : Hp) (flat : List AV) (rows : List (List α)) : Prop where
  len : flat.length = rows.length
  own : ∀ (k : Nat) (v : AV), flat[k]? = some v → Own f sz h v (nth rows k)
  dis : ∀ (i j : Nat) (v w : AV), i ≠ j → flat[i]? = some v → flat[j]? = some w → Dis v w
theorem RowsAt.mono {α : Type} {f : α → List AV} {sz : Nat} {h' : Hp} {flat : List AV} {rows : List (List α)} (r : RowsAt f sz h flat rows) (hn : h.nx ≤ h'.nx) (hb : ∀ (k id off n s : Nat), flat[k]? = some (AV.sl id off n s) → h'.bl id = h.bl id) : RowsAt f sz h' flat rows := by
  refine ⟨r.len, fun k v hv => ?_, r.dis⟩
  rcases r.own k v hv with o | ⟨id, e, hi, hc⟩
  · exact .inl o
  · exact .inr ⟨id, e, by omega, by rw [hb k id 0 _ sz (by rw [hv, e])]; exact hc⟩
/-- Row k grows. -/
theorem RowsAt.app {α : Type} {f : α → List AV} {sz : Nat} {flat : List AV} {rows : List (List α)} (r : RowsAt f sz h flat rows) {k : Nat} {v : AV} (hk : flat[k]? = some v) (new : List α) (o : Nat) (b : Blk) (ho : ∀ (j id off n s : Nat), flat[j]? = some (AV.sl id off n s) → id ≠ o) (hoo : o < h.nx) :
    RowsAt f sz ((appH h v (new.flatMap f)).put o (some b)) (flat.set k (appV h new.length sz)) (rows.set k new) := by
  have hlt : k < flat.length := (List.getElem?_eq_some_iff.1 hk).1
  have hlt2 : k < rows.length := by rw [← r.len]; exact hlt
  refine ⟨by simp [r.len], fun j w hw => ?_, fun i j w u hne hw hu => ?_⟩
  · rw [List.getElem?_set] at hw
    by_cases hj : k = j
    · subst hj
      rw [if_pos rfl, if_pos hlt] at hw
      cases hw
      have : nth (rows.set k new) k = new := by rw [nth, List.getElem?_set, if_pos rfl, if_pos hlt2]; rfl
      rw [this]
      refine .inr ⟨h.nx, rfl, by rw [put_nx, appH_nx]; omega, ?_⟩
      rw [put_bl, if_neg (by omega)]
      unfold appH
      cases v <;> simp only [alloc_bl, put_nx, if_true]
    · rw [if_neg hj] at hw
      have : nth (rows.set k new) j = nth rows j := by rw [nth, List.getElem?_set, if_neg hj]; rfl
      rw [this]
      rcases r.own j w hw with q | ⟨id, e, hi, hc⟩
      · exact .inl q
      · refine .inr ⟨id, e, by rw [put_nx, appH_nx]; omega, ?_⟩
        rw [put_bl, if_neg (ho j id 0 _ sz (by rw [hw, e]))]
        rw [appH_bl _ _ _ _ hi (fun id' off n s e' => (r.dis k j v w hj hk hw _ _ _ _ _ _ _ _ e' e).symm)]
        exact hc
  · rw [List.getElem?_set] at hw hu
    by_cases hi : k = i
    · subst hi
      rw [if_pos rfl, if_pos hlt] at hw
      rw [if_neg hne] at hu
      cases hw
      exact (r.own j u hu).dis _ _
    · rw [if_neg hi] at hw
      by_cases hj : k = j
      · subst hj
        rw [if_pos rfl, if_pos hlt] at hu
        cases hu
        exact ((r.own i w hw).dis _ _).symm
      · rw [if_neg hj] at hu
        exact r.dis i j w u hne hw hu
end
end Go.Am

