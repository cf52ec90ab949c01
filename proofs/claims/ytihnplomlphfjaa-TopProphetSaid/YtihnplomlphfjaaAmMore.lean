/-
  More rules: results handed over, slices of slices that are being built.
-/
import Derived.Test.YtihnplomlphfjaaAmFor
set_option linter.unusedVariables false
set_option linter.unusedSimpArgs false
namespace Go.Am
open Go

section
variable {P : Program} {cfg : Cfg} {st : St} {h : Hp} {Q : Exit → St → Hp → Prop}

@[go_sem] theorem importR_fresh2 (sz : Nat) (flat : List AV) (b : Bool) : importR h (.tup [.fresh sz flat, .bool b]) = (.tup [.sl h.nx 0 (flat.length / sz) sz, .bool b], h.alloc (.cells false true flat)) := rfl
/-! ### Results that are handed over whole, struct and all -/
/-! ### A call in a memory of its own, handed out in one way or another -/
/-! ### A slice of slices that are being built -/
structure RowsAt {α : Type} (f : α → List AV) (sz : Nat) (h : Hp) (flat : List AV) (rows : List (List α)) : Prop where
  len : flat.length = rows.length
  own : ∀ (k : Nat) (v : AV), flat[k]? = some v → Own f sz h v (nth rows k)
  dis : ∀ (i j : Nat) (v w : AV), i ≠ j → flat[i]? = some v → flat[j]? = some w → Dis v w
theorem RowsAt.mono {α : Type} {f : α → List AV} {sz : Nat} {h' : Hp} {flat : List AV} {rows : List (List α)} (r : RowsAt f sz h flat rows) (hn : h.nx ≤ h'.nx) (hb : ∀ (k id off n s : Nat), flat[k]? = some (AV.sl id off n s) → h'.bl id = h.bl id) : RowsAt f sz h' flat rows := by
  refine ⟨r.len, fun k v hv => ?_, r.dis⟩
  rcases r.own k v hv with o | ⟨id, e, hi, hc⟩
  · exact .inl o
  · exact .inr ⟨id, e, by omega, by rw [hb k id 0 _ sz (by rw [hv, e])]; exact hc⟩
end
end Go.Am

