/-
  More rules: results handed over, slices of slices that are being built.
-/
import Derived.Test.YtcdpkgmkckfonaaAmFor
set_option linter.unusedVariables false
set_option linter.unusedSimpArgs false
namespace Go.Am
open Go

section
variable {P : Program} {cfg : Cfg} {st : St} {h : Hp} {Q : Exit → St → Hp → Prop}

@[go_sem] theorem importR_fresh2 (sz : Nat) (flat : List AV) (b : Bool) : importR h (.tup [.fresh sz flat, .bool b]) = (.tup [.sl h.nx 0 (flat.length / sz) sz, .bool b], h.alloc (.cells false true flat)) := rfl
/-! ### Results that are handed over whole, struct and all -/
/-! ### A call in a memory of its own, handed out in one way or another -/
/-! ### A slice of slices that are being built -/
structure RowsAt {α : Type} (f : α → List AV) (sz : Nat) (h : Hp) (flat : List AV) (rows : List (List α)) : Prop where
  len : flat.length = rows.length
  own : ∀ (k : Nat) (v : AV), flat[k]? = some v → Own f sz h v (nth rows k)
  dis : ∀ (i j : Nat) (v w : AV), i ≠ j → flat[i]? = some v → flat[j]? = some w → Dis v w
theorem RowsAt.nils {α : Type} {f : α → List AV} {sz : Nat} (n : Nat) : RowsAt f sz h (List.replicate n .nil) (List.replicate n ([] : List α)) := by
  have key : ∀ (k : Nat) (v : AV), (List.replicate n AV.nil)[k]? = some v → k < n ∧ v = .nil := by
    intro k v hv
    rw [List.getElem?_replicate] at hv
    split at hv
    · cases hv; exact ⟨by assumption, rfl⟩
    · cases hv
  refine ⟨by simp, fun k v hv => ?_, fun i j v w _ hv _ => ?_⟩
  · obtain ⟨h1, rfl⟩ := key k v hv
    exact .inl ⟨rfl, nth_replicate _ _ _ h1⟩
  · obtain ⟨h1, rfl⟩ := key i v hv
    exact Dis.nil_l _
theorem RowsAt.mono {α : Type} {f : α → List AV} {sz : Nat} {h' : Hp} {flat : List AV} {rows : List (List α)} (r : RowsAt f sz h flat rows) (hn : h.nx ≤ h'.nx) (hb : ∀ (k id off n s : Nat), flat[k]? = some (AV.sl id off n s) → h'.bl id = h.bl id) : RowsAt f sz h' flat rows := by
  refine ⟨r.len, fun k v hv => ?_, r.dis⟩
  rcases r.own k v hv with o | ⟨id, e, hi, hc⟩
  · exact .inl o
  · exact .inr ⟨id, e, by omega, by rw [hb k id 0 _ sz (by rw [hv, e])]; exact hc⟩
/-- Row k grows. -/
theorem RowsAt.app {α : Type} {f : α → List AV} {sz : Nat} {flat : List AV} {rows : List (List α)} (r : RowsAt f sz h flat rows) {k : Nat} {v : AV} (hk : flat[k]? = some v) (new : List α) (o : Nat) (b : Blk) (ho : ∀ (j id off n s : Nat), flat[j]? = some (AV.sl id off n s) → id ≠ o) (hoo : o < h.nx) :
    RowsAt f sz ((appH h v (new.flatMap f)).put o (some b)) (flat.set k (appV h new.length sz)) (rows.set k new) := by
  have hlt : k < flat.length := (List.getElem?_eq_some_iff.1 hk).1
  have hlt2 : k < rows.length := by rw [← r.len]; exact hlt
  refine ⟨by simp [r.len], fun j w hw => ?_, fun i j w u hne hw hu => ?_⟩
  · rw [List.getElem?_set] at hw
    by_cases hj : k = j
    · subst hj
      rw [if_pos rfl, if_pos hlt] at hw
      cases hw
      have : nth (rows.set k new) k = new := by rw [nth, List.getElem?_set, if_pos rfl, if_pos hlt2]; rfl
      rw [this]
      refine .inr ⟨h.nx, rfl, by rw [put_nx, appH_nx]; omega, ?_⟩
      rw [put_bl, if_neg (by omega)]
      unfold appH
      cases v <;> simp only [alloc_bl, put_nx, if_true]
    · rw [if_neg hj] at hw
      have : nth (rows.set k new) j = nth rows j := by rw [nth, List.getElem?_set, if_neg hj]; rfl
      rw [this]
      rcases r.own j w hw with q | ⟨id, e, hi, hc⟩
      · exact .inl q
      · refine .inr ⟨id, e, by rw [put_nx, appH_nx]; omega, ?_⟩
        rw [put_bl, if_neg (ho j id 0 _ sz (by rw [hw, e]))]
        rw [appH_bl _ _ _ _ hi (fun id' off n s e' => (r.dis k j v w hj hk hw _ _ _ _ _ _ _ _ e' e).symm)]
        exact hc
  · rw [List.getElem?_set] at hw hu
    by_cases hi : k = i
    · subst hi
      rw [if_pos rfl, if_pos hlt] at hw
      rw [if_neg hne] at hu
      cases hw
      exact (r.own j u hu).dis _ _
    · rw [if_neg hi] at hw
      by_cases hj : k = j
      · subst hj
        rw [if_pos rfl, if_pos hlt] at hu
        cases hu
        exact ((r.own i w hw).dis _ _).symm
      · rw [if_neg hj] at hu
        exact r.dis i j w u hne hw hu
theorem sealV0_Own {α : Type} {f : α → List AV} {sz : Nat} [RowEnc f sz] {v : AV} {xs : List α} (o : Own f sz h v xs) : ∃ h', sealV0 h v = some (L f xs, h') ∧ h'.nx = h.nx ∧ ∀ i, (∀ id off n sz', v = .sl id off n sz' → i ≠ id) → h'.bl i = h.bl i := by
  rcases o with ⟨rfl, rfl⟩ | ⟨id, rfl, hi, hc⟩
  · exact ⟨h, rfl, rfl, fun _ _ => rfl⟩
  · refine ⟨h.put id (some (.cells true true (xs.flatMap f))), ?_, rfl, fun i hne => by rw [put_bl, if_neg (hne _ _ _ _ rfl)]⟩
    simp only [sealV0, AV.isPure, hc]
    rw [if_neg (by simp), if_pos ⟨pureL_flatMap xs, by rw [flatMap_len]; omega, RowEnc.pos (f := f)⟩, List.drop_zero, List.take_of_length_le (by rw [flatMap_len]; omega), chunk_flatMap]
theorem sealCells0_rows {α : Type} {f : α → List AV} {sz : Nat} [RowEnc f sz] : ∀ (flat : List AV) (rows : List (List α)) (h : Hp), RowsAt f sz h flat rows →
    ∃ h', sealCells0 h flat = some (rows.map (L f), h') ∧ h'.nx = h.nx ∧ ∀ i, (∀ (k id off n s : Nat), flat[k]? = some (AV.sl id off n s) → i ≠ id) → h'.bl i = h.bl i
  | [], rows, h, r => by
    have : rows = [] := List.eq_nil_of_length_eq_zero r.len.symm
    subst this
    exact ⟨h, rfl, rfl, fun _ _ => rfl⟩
  | v :: flat, rows, h, r => by
    cases rows with
    | nil => cases r.len
    | cons xs rows =>
      obtain ⟨h1, q1, e2, e3⟩ := sealV0_Own (r.own 0 v rfl)
      have r1 : RowsAt f sz h1 flat rows := by
        refine ⟨by simpa using r.len, fun k w hw => ?_, fun i j w u hne hw hu => r.dis (i + 1) (j + 1) w u (by omega) hw hu⟩
        have o := r.own (k + 1) w hw
        have e : nth (xs :: rows) (k + 1) = nth rows k := rfl
        rw [e] at o
        rcases o with q | ⟨id, q1, q2, q3⟩
        · exact .inl q
        · refine .inr ⟨id, q1, by omega, ?_⟩
          rw [e3 id (fun id' off n s q => (r.dis 0 (k + 1) v w (by omega) rfl hw _ _ _ _ _ _ _ _ q q1).symm)]
          exact q3
      obtain ⟨h2, e4, e5, e6⟩ := sealCells0_rows flat rows h1 r1
      have e0 : nth (xs :: rows) 0 = xs := rfl
      rw [e0] at q1
      refine ⟨h2, ?_, by omega, fun i hi => ?_⟩
      · simp only [sealCells0, q1, Option.bind_some, e4, Option.map_some, List.map_cons]
      · rw [e6 i (fun k id off n s hk => hi (k + 1) id off n s hk), e3 i (fun id off n s e => hi 0 id off n s (by simp [e]))]
/-- A slice of slices, sealed whole. -/
theorem sealA_rows {α : Type} {f : α → List AV} {sz : Nat} [RowEnc f sz] {flat : List AV} {rows : List (List α)} (r : RowsAt f sz h flat rows) (o n : Nat) (fz row : Bool) (hb : h.bl o = some (.cells fz row flat)) (hn : n = rows.length) (hp : AV.pureL flat = false) (ho : ∀ (j id off n s : Nat), flat[j]? = some (AV.sl id off n s) → id ≠ o) :
    ∃ h', sealA h (.sl o 0 n 1) = some (L (e1 (L f)) rows, h') ∧ h'.nx = h.nx := by
  subst hn
  obtain ⟨h1, q1, e2, e3⟩ := sealCells0_rows flat rows h r
  have hb1 : h1.bl o = some (.cells fz row flat) := by rw [e3 o (fun k id off n s hk => (ho k id off n s hk).symm)]; exact hb
  refine ⟨h1.put o (some (.cells true row flat)), ?_, e2⟩
  have hlen : (rows.map (L f)).length = rows.length := by simp
  have hch : chunk 1 (rows.map (L f)) = rows.map (e1 (L f)) := by
    have h2 : ∀ l : List (List α), l.map (L f) = l.flatMap (e1 (L f)) := by
      intro l
      induction l with
      | nil => rfl
      | cons x xs ih => rw [List.flatMap_cons, List.map_cons, ih]; rfl
    rw [h2]; exact chunk_flatMap (f := e1 (L f)) rows
  simp only [sealA, sealV, hb, hp, q1, Option.bind_some, hb1]
  rw [if_neg (by simp), if_pos ⟨by omega, by decide⟩, List.drop_zero, List.take_of_length_le (by omega), hch]

end
end Go.Am

