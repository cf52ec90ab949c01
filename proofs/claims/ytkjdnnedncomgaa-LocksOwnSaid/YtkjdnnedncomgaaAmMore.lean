/-
  More rules: results handed over, slices of slices that are being built.
-/
import Derived.Test.YtkjdnnedncomgaaAmFor
set_option linter.unusedVariables false
set_option linter.unusedSimpArgs false
namespace Go.Am
open Go

section
variable {P : Program} {cfg : Cfg} {st : St} {h : Hp} {Q : Exit → St → Hp → Prop}

/-- Handed over: a slice, and a bool or a number. -/
theorem export_pair_fresh {α : Type} {f : α → List AV} {sz : Nat} [RowEnc f sz] (kn : Bool) (t u e : TypeId) (ht : P.underlying t = some (.slice e)) (hs : isz P e = some sz) {v w : AV} {xs : List α} (o : Own f sz h v xs) (hw : w.isPure = true) (hn : w ≠ .nil) :
    exportR P true false [t, u] h (.tup [v, w]) = some (.tup [.fresh sz (xs.flatMap f), w]) := by
  have hpos := RowEnc.pos (f := f)
  have h1 : exportV P true false t h [] v = some (.fresh sz (xs.flatMap f), h, v.blocks) := by
    unfold exportV
    rw [if_pos rfl, if_neg (by simp)]
    rcases o with ⟨rfl, rfl⟩ | ⟨id, rfl, hi, hc⟩
    · simp only [ht, hs, Option.bind_some, hpos, if_true]
      rfl
    · simp only [hc]
      rw [if_pos ⟨pureL_flatMap xs, trivial, hpos, flatMap_len (f := f) xs, by simp⟩]
      rfl
  have h2 : ∀ used, exportV P true false u h used w = some (w, h, used) := by
    intro used
    unfold exportV
    rw [if_pos rfl, if_neg (by simp)]
    cases w <;> simp_all [AV.isPure]
  simp only [exportR, exportL, h1, h2, Option.bind_some, Option.map_some]
@[go_sem] theorem importR_fresh2 (sz : Nat) (flat : List AV) (b : Bool) : importR h (.tup [.fresh sz flat, .bool b]) = (.tup [.sl h.nx 0 (flat.length / sz) sz, .bool b], h.alloc (.cells false true flat)) := rfl
/-! ### Results that are handed over whole, struct and all -/
theorem freshN_pure {k : Nat} {u : List Nat} {v : AV} (hp : v.isPure = true) (hc : v.isCell = true) : freshN h k u v = some (v, u) := by
  cases k <;> simp [freshN, hp, hc]
theorem freshAll_pure {k : Nat} {u : List Nat} : ∀ (flat : List AV), AV.pureL flat = true → flat.all AV.isCell = true → freshAll (freshN h k) u flat = some (flat, u)
  | [], _, _ => rfl
  | v :: vs, hp, hc => by
    simp only [AV.pureL, Bool.and_eq_true] at hp
    simp only [List.all_cons, Bool.and_eq_true] at hc
    simp only [freshAll, freshN_pure hp.1 hc.1, freshAll_pure vs hp.2 hc.2, Option.bind_some, Option.map_some]
/-- A list that was built: handed over. -/
theorem freshN_own {α : Type} {f : α → List AV} {sz : Nat} [RowEnc f sz] {k : Nat} {u : List Nat} {id n : Nat} {xs : List α} (hb : h.bl id = some (.cells false true (xs.flatMap f))) (hn : n = xs.length) (hu : id ∉ u) :
    freshN h (k + 1) u (.sl id 0 n sz) = some (.fresh sz (xs.flatMap f), id :: u) := by
  subst hn
  have hc : (xs.flatMap f).all AV.isCell = true := List.all_eq_true.2 (flatMap_cell xs)
  simp only [freshN, AV.isPure, Bool.false_and, Bool.false_eq_true, if_false, hb]
  rw [if_pos ⟨trivial, RowEnc.pos (f := f), flatMap_len (f := f) xs, hu⟩, freshAll_pure _ (pureL_flatMap xs) hc]
  rfl
theorem importN_own {α : Type} {f : α → List AV} {sz : Nat} [RowEnc f sz] {k : Nat} (xs : List α) : importN (k + 1) h (.fresh sz (xs.flatMap f)) = (.sl h.nx 0 xs.length sz, h.alloc (.cells false true (xs.flatMap f))) := by
  have key : ∀ (l : List AV), AV.pureL l = true → mapH (importN k) h l = (l, h) := by
    intro l
    induction l with
    | nil => intro _; rfl
    | cons v vs ih =>
      intro hp
      simp only [AV.pureL, Bool.and_eq_true] at hp
      have : importN k h v = (v, h) := by
        cases k with
        | zero => rfl
        | succ k => cases v <;> first | rfl | simp [AV.isPure] at hp
      simp only [mapH, this, ih hp.2]
  have hd : (xs.flatMap f).length / sz = xs.length := by rw [flatMap_len (f := f) xs]; exact Nat.mul_div_cancel _ (RowEnc.pos (f := f))
  simp only [importN, key _ (pureL_flatMap xs), hd]
/-! ### A call in a memory of its own, handed out in one way or another -/
theorem pure_of_shr (hext : ExtOk P cfg) {f : FuncId} {args : List AV} {v r : AV} {h' : Hp} {ow kn : Bool} {ts : List TypeId} (hs : Shr P cfg f args Hp.empty v h') (he : exportR P ow kn ts h' v = some r) : PureOk P f args r := by
  obtain ⟨k, e⟩ := hs
  obtain ⟨hen, hcall⟩ := (sound hext k).2.1 _ _ _ _ _ e
  refine ⟨hen, fun w fz vs hf ha R hR => ?_⟩
  have ha' : ArgsR w { base := w.heap.size, nx := 0, loc := fun _ => .dead, fz := fz } args vs := by
    refine ⟨ha.1, fun j u hu => ?_⟩
    have := ha.2 j u hu
    exact VR.base_any this
  refine hcall w _ vs (ctx_nil hf) ha' R fun x w' c' E H' V => ?_
  obtain ⟨c2, h2, E2, H2, hres⟩ := exportR_ok (P := P) H' V he
  have hb : c'.base = w.heap.size := E.base
  rw [hb] at hres
  refine hR x w' c2.fz E.below (fun b hb => E2.fz b (E.fz b hb)) (fun b hfb => ?_) hres
  have hlt := H2.fzlt b hfb
  rcases (E.trans E2).fzb b hfb with h | h
  · exact .inl h
  · exact .inr ⟨h, hlt⟩
theorem findSome_at {α β : Type} [Inhabited α] (g : α → Option β) : ∀ (l : List α) (i : Nat) (r : β), i < l.length → (∀ j, j < i → g (nth l j) = none) → g (nth l i) = some r → l.findSome? g = some r
  | [], i, r, hi, _, _ => by cases hi
  | x :: l, 0, r, _, _, h => by
    have : g x = some r := h
    simp [List.findSome?_cons, this]
  | x :: l, i + 1, r, hi, hn, h => by
    have h0 : g x = none := hn 0 (by omega)
    rw [List.findSome?_cons, h0]
    exact findSome_at g l i r (by simpa using hi) (fun j hj => hn (j + 1) (by omega)) h
theorem findSome_none {α β : Type} [Inhabited α] {g : α → Option β} {l : List α} (hn : ∀ j, j < l.length → g (nth l j) = none) : l.findSome? g = none := by
  rw [List.findSome?_eq_none_iff]
  intro x hx
  obtain ⟨j, hj, rfl⟩ := List.getElem_of_mem hx
  rw [← nth_getElem hj]; exact hn j hj

/-! ### A slice of slices that are being built -/
structure RowsAt {α : Type} (f : α → List AV) (sz : Nat) (h : Hp) (flat : List AV) (rows : List (List α)) : Prop where
  len : flat.length = rows.length
  own : ∀ (k : Nat) (v : AV), flat[k]? = some v → Own f sz h v (nth rows k)
  dis : ∀ (i j : Nat) (v w : AV), i ≠ j → flat[i]? = some v → flat[j]? = some w → Dis v w
theorem RowsAt.nils {α : Type} {f : α → List AV} {sz : Nat} (n : Nat) : RowsAt f sz h (List.replicate n .nil) (List.replicate n ([] : List α)) := by
  have key : ∀ (k : Nat) (v : AV), (List.replicate n AV.nil)[k]? = some v → k < n ∧ v = .nil := by
    intro k v hv
    rw [List.getElem?_replicate] at hv
    split at hv
    · cases hv; exact ⟨by assumption, rfl⟩
    · cases hv
  refine ⟨by simp, fun k v hv => ?_, fun i j v w _ hv _ => ?_⟩
  · obtain ⟨h1, rfl⟩ := key k v hv
    exact .inl ⟨rfl, nth_replicate _ _ _ h1⟩
  · obtain ⟨h1, rfl⟩ := key i v hv
    exact Dis.nil_l _
theorem RowsAt.mono {α : Type} {f : α → List AV} {sz : Nat} {h' : Hp} {flat : List AV} {rows : List (List α)} (r : RowsAt f sz h flat rows) (hn : h.nx ≤ h'.nx) (hb : ∀ (k id off n s : Nat), flat[k]? = some (AV.sl id off n s) → h'.bl id = h.bl id) : RowsAt f sz h' flat rows := by
  refine ⟨r.len, fun k v hv => ?_, r.dis⟩
  rcases r.own k v hv with o | ⟨id, e, hi, hc⟩
  · exact .inl o
  · exact .inr ⟨id, e, by omega, by rw [hb k id 0 _ sz (by rw [hv, e])]; exact hc⟩
/-- Row k grows. -/
theorem RowsAt.app {α : Type} {f : α → List AV} {sz : Nat} {flat : List AV} {rows : List (List α)} (r : RowsAt f sz h flat rows) {k : Nat} {v : AV} (hk : flat[k]? = some v) (new : List α) (o : Nat) (b : Blk) (ho : ∀ (j id off n s : Nat), flat[j]? = some (AV.sl id off n s) → id ≠ o) (hoo : o < h.nx) :
    RowsAt f sz ((appH h v (new.flatMap f)).put o (some b)) (flat.set k (appV h new.length sz)) (rows.set k new) := by
  have hlt : k < flat.length := (List.getElem?_eq_some_iff.1 hk).1
  have hlt2 : k < rows.length := by rw [← r.len]; exact hlt
  refine ⟨by simp [r.len], fun j w hw => ?_, fun i j w u hne hw hu => ?_⟩
  · rw [List.getElem?_set] at hw
    by_cases hj : k = j
    · subst hj
      rw [if_pos rfl, if_pos hlt] at hw
      cases hw
      have : nth (rows.set k new) k = new := by rw [nth, List.getElem?_set, if_pos rfl, if_pos hlt2]; rfl
      rw [this]
      refine .inr ⟨h.nx, rfl, by rw [put_nx, appH_nx]; omega, ?_⟩
      rw [put_bl, if_neg (by omega)]
      unfold appH
      cases v <;> simp only [alloc_bl, put_nx, if_true]
    · rw [if_neg hj] at hw
      have : nth (rows.set k new) j = nth rows j := by rw [nth, List.getElem?_set, if_neg hj]; rfl
      rw [this]
      rcases r.own j w hw with q | ⟨id, e, hi, hc⟩
      · exact .inl q
      · refine .inr ⟨id, e, by rw [put_nx, appH_nx]; omega, ?_⟩
        rw [put_bl, if_neg (ho j id 0 _ sz (by rw [hw, e]))]
        rw [appH_bl _ _ _ _ hi (fun id' off n s e' => (r.dis k j v w hj hk hw _ _ _ _ _ _ _ _ e' e).symm)]
        exact hc
  · rw [List.getElem?_set] at hw hu
    by_cases hi : k = i
    · subst hi
      rw [if_pos rfl, if_pos hlt] at hw
      rw [if_neg hne] at hu
      cases hw
      exact (r.own j u hu).dis _ _
    · rw [if_neg hi] at hw
      by_cases hj : k = j
      · subst hj
        rw [if_pos rfl, if_pos hlt] at hu
        cases hu
        exact ((r.own i w hw).dis _ _).symm
      · rw [if_neg hj] at hu
        exact r.dis i j w u hne hw hu
theorem sealV0_Own {α : Type} {f : α → List AV} {sz : Nat} [RowEnc f sz] {v : AV} {xs : List α} (o : Own f sz h v xs) : ∃ h', sealV0 h v = some (L f xs, h') ∧ h'.nx = h.nx ∧ ∀ i, (∀ id off n sz', v = .sl id off n sz' → i ≠ id) → h'.bl i = h.bl i := by
  rcases o with ⟨rfl, rfl⟩ | ⟨id, rfl, hi, hc⟩
  · exact ⟨h, rfl, rfl, fun _ _ => rfl⟩
  · refine ⟨h.put id (some (.cells true true (xs.flatMap f))), ?_, rfl, fun i hne => by rw [put_bl, if_neg (hne _ _ _ _ rfl)]⟩
    simp only [sealV0, AV.isPure, hc]
    rw [if_neg (by simp), if_pos ⟨pureL_flatMap xs, by rw [flatMap_len]; omega, RowEnc.pos (f := f)⟩, List.drop_zero, List.take_of_length_le (by rw [flatMap_len]; omega), chunk_flatMap]
theorem sealCells0_rows {α : Type} {f : α → List AV} {sz : Nat} [RowEnc f sz] : ∀ (flat : List AV) (rows : List (List α)) (h : Hp), RowsAt f sz h flat rows →
    ∃ h', sealCells0 h flat = some (rows.map (L f), h') ∧ h'.nx = h.nx ∧ ∀ i, (∀ (k id off n s : Nat), flat[k]? = some (AV.sl id off n s) → i ≠ id) → h'.bl i = h.bl i
  | [], rows, h, r => by
    have : rows = [] := List.eq_nil_of_length_eq_zero r.len.symm
    subst this
    exact ⟨h, rfl, rfl, fun _ _ => rfl⟩
  | v :: flat, rows, h, r => by
    cases rows with
    | nil => cases r.len
    | cons xs rows =>
      obtain ⟨h1, q1, e2, e3⟩ := sealV0_Own (r.own 0 v rfl)
      have r1 : RowsAt f sz h1 flat rows := by
        refine ⟨by simpa using r.len, fun k w hw => ?_, fun i j w u hne hw hu => r.dis (i + 1) (j + 1) w u (by omega) hw hu⟩
        have o := r.own (k + 1) w hw
        have e : nth (xs :: rows) (k + 1) = nth rows k := rfl
        rw [e] at o
        rcases o with q | ⟨id, q1, q2, q3⟩
        · exact .inl q
        · refine .inr ⟨id, q1, by omega, ?_⟩
          rw [e3 id (fun id' off n s q => (r.dis 0 (k + 1) v w (by omega) rfl hw _ _ _ _ _ _ _ _ q q1).symm)]
          exact q3
      obtain ⟨h2, e4, e5, e6⟩ := sealCells0_rows flat rows h1 r1
      have e0 : nth (xs :: rows) 0 = xs := rfl
      rw [e0] at q1
      refine ⟨h2, ?_, by omega, fun i hi => ?_⟩
      · simp only [sealCells0, q1, Option.bind_some, e4, Option.map_some, List.map_cons]
      · rw [e6 i (fun k id off n s hk => hi (k + 1) id off n s hk), e3 i (fun id off n s e => hi 0 id off n s (by simp [e]))]
/-- A slice of slices, sealed whole. -/
theorem sealA_rows {α : Type} {f : α → List AV} {sz : Nat} [RowEnc f sz] {flat : List AV} {rows : List (List α)} (r : RowsAt f sz h flat rows) (o n : Nat) (fz row : Bool) (hb : h.bl o = some (.cells fz row flat)) (hn : n = rows.length) (hp : AV.pureL flat = false) (ho : ∀ (j id off n s : Nat), flat[j]? = some (AV.sl id off n s) → id ≠ o) :
    ∃ h', sealA h (.sl o 0 n 1) = some (L (e1 (L f)) rows, h') ∧ h'.nx = h.nx := by
  subst hn
  obtain ⟨h1, q1, e2, e3⟩ := sealCells0_rows flat rows h r
  have hb1 : h1.bl o = some (.cells fz row flat) := by rw [e3 o (fun k id off n s hk => (ho k id off n s hk).symm)]; exact hb
  refine ⟨h1.put o (some (.cells true row flat)), ?_, e2⟩
  have hlen : (rows.map (L f)).length = rows.length := by simp
  have hch : chunk 1 (rows.map (L f)) = rows.map (e1 (L f)) := by
    have h2 : ∀ l : List (List α), l.map (L f) = l.flatMap (e1 (L f)) := by
      intro l
      induction l with
      | nil => rfl
      | cons x xs ih => rw [List.flatMap_cons, List.map_cons, ih]; rfl
    rw [h2]; exact chunk_flatMap (f := e1 (L f)) rows
  simp only [sealA, sealV, hb, hp, q1, Option.bind_some, hb1]
  rw [if_neg (by simp), if_pos ⟨by omega, by decide⟩, List.drop_zero, List.take_of_length_le (by omega), hch]

end
end Go.Am

