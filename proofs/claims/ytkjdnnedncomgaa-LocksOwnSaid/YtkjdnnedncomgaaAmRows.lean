/-
  Lists of rows that are alive, with the rows' values: how they grow, how they are handed over, what the caller gets.
-/
import Derived.Test.YtkjdnnedncomgaaAmDeep
set_option linter.unusedVariables false
set_option linter.unusedSimpArgs false
namespace Go.Am
open Go

section
variable {P : Program} {h h' : Hp}

theorem RowsAt.snoc {α : Type} {f : α → List AV} {sz : Nat} {flat : List AV} {rows : List (List α)} {v : AV} {xs : List α} (r : RowsAt f sz h flat rows) (o : Own f sz h v xs) (d : ∀ (j : Nat) (w : AV), flat[j]? = some w → Dis w v) : RowsAt f sz h (flat ++ [v]) (rows ++ [xs]) := by
  have hl := r.len
  have at_ : ∀ (k : Nat) (w : AV), (flat ++ [v])[k]? = some w → (k < flat.length ∧ flat[k]? = some w) ∨ (k = flat.length ∧ w = v) := fun k w hw => by
    rcases Nat.lt_or_ge k flat.length with h | h
    · rw [List.getElem?_append_left h] at hw; exact .inl ⟨h, hw⟩
    · rw [List.getElem?_append_right h] at hw
      have hk : k - flat.length = 0 := by
        rcases Nat.eq_zero_or_pos (k - flat.length) with h | h
        · exact h
        · rw [List.getElem?_eq_none (by simp; omega)] at hw; cases hw
      rw [hk] at hw
      exact .inr ⟨by omega, by simpa using hw.symm⟩
  refine ⟨by simp [hl], fun k w hw => ?_, fun i j w u hne hw hu => ?_⟩
  · rcases at_ k w hw with ⟨h1, h2⟩ | ⟨h1, rfl⟩
    · have : nth (rows ++ [xs]) k = nth rows k := by rw [nth, List.getElem?_append_left (by omega)]; rfl
      rw [this]; exact r.own k w h2
    · have : nth (rows ++ [xs]) k = xs := by rw [nth, List.getElem?_append_right (by omega), show k - rows.length = 0 by omega]; rfl
      rw [this]; exact o
  · rcases at_ i w hw with ⟨h1, h2⟩ | ⟨h1, rfl⟩ <;> rcases at_ j u hu with ⟨h3, h4⟩ | ⟨h3, rfl⟩
    · exact r.dis i j w u hne h2 h4
    · exact d i w h2
    · exact (d j u h4).symm
    · omega
/-- Rows, handed over. -/
def frR (rows : List (List Int)) : List AV := rows.map fun r => .fresh 1 (r.flatMap (e1 I))
theorem frR_len (rows : List (List Int)) : (frR rows).length = rows.length := by simp [frR]
theorem fresh_at (k : Nat) : ∀ (flat : List AV) (rows : List (List Int)) (u : List Nat), RowsAt (e1 I) 1 h flat rows → (∀ r ∈ rows, 0 < r.length) → (∀ (j id off n s : Nat), flat[j]? = some (AV.sl id off n s) → id ∉ u) →
    ∃ u', freshAll (freshN h (k + 1)) u flat = some (frR rows, u') ∧ ∀ a ∈ u', a ∈ u ∨ ∃ (j off n s : Nat), flat[j]? = some (AV.sl a off n s)
  | [], rows, u, r, _, _ => by
    have : rows = [] := List.eq_nil_of_length_eq_zero r.len.symm
    subst this
    exact ⟨u, rfl, fun a ha => .inl ha⟩
  | v :: flat, [], u, r, _, _ => by cases r.len
  | v :: flat, xs :: rows, u, r, hp, hu => by
    have hx := hp xs List.mem_cons_self
    obtain ⟨id, rfl, hi, hb⟩ := (r.own 0 v rfl).sl (show 0 < (nth (xs :: rows) 0).length from hx)
    have e0 : nth (xs :: rows) 0 = xs := rfl
    have r1 : RowsAt (e1 I) 1 h flat rows := ⟨by simpa using r.len, fun k w hw => r.own (k + 1) w hw, fun i j w u hne hw hu => r.dis (i + 1) (j + 1) w u (by omega) hw hu⟩
    have h0 : id ∉ u := hu 0 id 0 _ 1 rfl
    obtain ⟨u', k1, k2⟩ := fresh_at k flat rows (id :: u) r1 (fun r hr => hp r (List.mem_cons_of_mem _ hr)) (fun j id' off n s hj => by
      have h1 := hu (j + 1) id' off n s hj
      have h2 := r.dis 0 (j + 1) _ _ (by omega) rfl hj _ _ _ _ _ _ _ _ rfl rfl
      simp only [List.mem_cons, not_or]
      exact ⟨fun e => h2 e.symm, h1⟩)
    refine ⟨u', ?_, fun a ha => ?_⟩
    · have hf : freshN h (k + 1) u (.sl id 0 xs.length 1) = some (.fresh 1 (xs.flatMap (e1 I)), id :: u) := freshN_own (f := e1 I) (sz := 1) (k := k) (u := u) (xs := xs) hb rfl h0
      simp only [freshAll, e0, hf, Option.bind_some, k1, Option.map_some]
      rfl
    · rcases k2 a ha with h | ⟨j, off, n, s, h⟩
      · rcases List.mem_cons.1 h with rfl | h
        · exact .inr ⟨0, _, _, _, rfl⟩
        · exact .inl h
      · exact .inr ⟨j + 1, off, n, s, h⟩
theorem RowsAt.lt {α : Type} {f : α → List AV} {sz : Nat} {flat : List AV} {rows : List (List α)} (r : RowsAt f sz h flat rows) {j id off n s : Nat} (hj : flat[j]? = some (AV.sl id off n s)) : id < h.nx := by
  rcases r.own j _ hj with ⟨e, _⟩ | ⟨id', e, hi, _⟩
  · cases e
  · cases e; exact hi
/-- A list of rows, handed over. -/
theorem freshV_at {flat : List AV} {rows : List (List Int)} (r : RowsAt (e1 I) 1 h flat rows) (hp : ∀ r ∈ rows, 0 < r.length) (o : Nat) (hb : h.bl o = some (.cells false true flat)) (ho : ∀ (j id off n s : Nat), flat[j]? = some (AV.sl id off n s) → id ≠ o) :
    ∃ u', freshV h [] (.sl o 0 rows.length 1) = some (.own (.fresh 1 (frR rows)), u') ∧ ∀ a ∈ u', a = o ∨ ∃ (j off n s : Nat), flat[j]? = some (AV.sl a off n s) := by
  obtain ⟨u', k1, k2⟩ := fresh_at 2 flat rows [o] r hp (fun j id off n s hj => by simpa using ho j id off n s hj)
  refine ⟨u', ?_, fun a ha => ?_⟩
  · simp only [freshV, freshN, AV.isPure, Bool.false_and, Bool.false_eq_true, if_false, hb]
    rw [if_pos ⟨trivial, by decide, by rw [r.len]; omega, by simp⟩]
    show ((freshAll (freshN h 3) [o] flat).map _).map _ = _
    rw [k1]; rfl
  · rcases k2 a ha with h | h
    · exact .inl (by simpa using h)
    · exact .inr h
/-- What the caller gets. -/
theorem import_at (k : Nat) : ∀ (rows : List (List Int)) (h : Hp), ∃ flat h', mapH (importN (k + 1)) h (frR rows) = (flat, h') ∧ h.nx ≤ h'.nx ∧ (∀ i, i < h.nx → h'.bl i = h.bl i) ∧ RowsAt (e1 I) 1 h' flat rows ∧ ∀ (j id off n s : Nat), flat[j]? = some (AV.sl id off n s) → h.nx ≤ id ∧ id < h'.nx
  | [], h => ⟨[], h, rfl, Nat.le_refl _, fun _ _ => rfl, ⟨rfl, fun k v hv => by simp at hv, fun i j v w _ hv => by simp at hv⟩, fun j id off n s hj => by simp at hj⟩
  | r :: rows, h => by
    have hi := importN_own (h := h) (f := e1 I) (sz := 1) (k := k) r
    obtain ⟨flat, h', k1, k2, k3, k4, k5⟩ := import_at k rows (h.alloc (.cells false true (r.flatMap (e1 I))))
    have hn : (h.alloc (.cells false true (r.flatMap (e1 I)))).nx = h.nx + 1 := rfl
    rw [hn] at k2 k3 k5
    refine ⟨.sl h.nx 0 r.length 1 :: flat, h', ?_, by omega, fun i hi' => ?_, ⟨by simp [k4.len], fun j v hv => ?_, fun i j v w hne hv hw => ?_⟩, fun j id off n s hj => ?_⟩
    · show ((importN (k + 1) h (.fresh 1 (r.flatMap (e1 I)))).1 :: (mapH (importN (k + 1)) (importN (k + 1) h (.fresh 1 (r.flatMap (e1 I)))).2 (frR rows)).1, (mapH (importN (k + 1)) (importN (k + 1) h (.fresh 1 (r.flatMap (e1 I)))).2 (frR rows)).2) = _
      rw [hi, k1]
    · rw [k3 i (by omega)]; simp [Hp.alloc, show ¬ i = h.nx by omega]
    · cases j with
      | zero =>
        cases hv
        exact .inr ⟨h.nx, rfl, by omega, by rw [k3 h.nx (by omega)]; simp [Hp.alloc]; rfl⟩
      | succ j => exact k4.own j v hv
    · cases i with
      | zero =>
        cases hv
        cases j with
        | zero => exact absurd rfl hne
        | succ j =>
          intro id off n s id' off' n' s' e1 e2
          cases e1; subst e2
          have := (k5 j id' off' n' s' hw).1
          omega
      | succ i =>
        cases j with
        | zero =>
          cases hw
          intro id off n s id' off' n' s' e1 e2
          cases e2; subst e1
          have := (k5 i id off n s hv).1
          omega
        | succ j => exact k4.dis i j v w (by omega) hv hw
    · cases j with
      | zero => cases hj; omega
      | succ j =>
        have := k5 j id off n s hj
        omega
/-- A list of rows, as the caller gets it. -/
def RowsLv (B : Nat) (h : Hp) (o : Nat) (flat : List AV) (rows : List (List Int)) : Prop := RowsAt (e1 I) 1 h flat rows ∧ h.bl o = some (.cells false true flat) ∧ (B ≤ o ∧ o < h.nx) ∧ ∀ (j id off n s : Nat), flat[j]? = some (AV.sl id off n s) → (B ≤ id ∧ id < h.nx) ∧ id ≠ o
theorem importV_at (rows : List (List Int)) (h : Hp) : ∃ o flat h', importV h (.own (.fresh 1 (frR rows))) = (.sl o 0 rows.length 1, h') ∧ h.nx ≤ h'.nx ∧ (∀ i, i < h.nx → h'.bl i = h.bl i) ∧ RowsLv h.nx h' o flat rows := by
  obtain ⟨flat, h2, k1, k2, k3, k4, k5⟩ := import_at 2 rows h
  refine ⟨h2.nx, flat, h2.alloc (.cells false true flat), ?_, by show _ ≤ h2.nx + 1; omega, fun i hi => ?_, k4.mono (by show _ ≤ h2.nx + 1; omega) fun j id off n s hj => ?_, by simp [Hp.alloc], ⟨k2, by show _ < h2.nx + 1; omega⟩, fun j id off n s hj => ?_⟩
  · show (AV.sl (mapH (importN 3) h (frR rows)).2.nx 0 ((frR rows).length / 1) 1, (mapH (importN 3) h (frR rows)).2.alloc (.cells false true (mapH (importN 3) h (frR rows)).1)) = _
    rw [k1, frR_len, Nat.div_one]
  · rw [show (h2.alloc (.cells false true flat)).bl i = h2.bl i by simp [Hp.alloc, show ¬ i = h2.nx by omega]]; exact k3 i hi
  · have := (k5 j id off n s hj).2
    simp [Hp.alloc, show ¬ id = h2.nx by omega]
  · have := k5 j id off n s hj
    exact ⟨⟨this.1, by show _ < h2.nx + 1; omega⟩, by omega⟩
theorem RowsLv.keep {B o : Nat} {flat : List AV} {rows : List (List Int)} (r : RowsLv B h o flat rows) (hn : h.nx ≤ h'.nx) (hb : ∀ i, B ≤ i → i < h.nx → h'.bl i = h.bl i) : RowsLv B h' o flat rows :=
  ⟨r.1.mono hn fun j id off n s hj => hb id (r.2.2.2 j id off n s hj).1.1 (r.2.2.2 j id off n s hj).1.2, (hb o r.2.2.1.1 r.2.2.1.2).trans r.2.1, ⟨r.2.2.1.1, by have := r.2.2.1.2; omega⟩, fun j id off n s hj => ⟨⟨(r.2.2.2 j id off n s hj).1.1, by have := (r.2.2.2 j id off n s hj).1.2; omega⟩, (r.2.2.2 j id off n s hj).2⟩⟩

/-! ### Rows that may be written -/
def RowsW (B M : Nat) (h : Hp) (cs : List AV) : Prop := ∀ c ∈ cs, c = .nil ∨ ∃ q m, c = .sl q 0 m 1 ∧ (B ≤ q ∧ q < M) ∧ m ≤ 1000 ∧ ∃ fl, h.bl q = some (.cells false true fl) ∧ fl.length = m
theorem RowsW.append {B M : Nat} {cs ds : List AV} (a : RowsW B M h cs) (b : RowsW B M h ds) : RowsW B M h (cs ++ ds) := fun c hc => by
  rcases List.mem_append.1 hc with h | h
  · exact a c h
  · exact b c h
theorem RowsW.keep {B M : Nat} {cs : List AV} (a : RowsW B M h cs) (hb : ∀ i, B ≤ i → i < M → h'.bl i = h.bl i) : RowsW B M h' cs := fun c hc => by
  rcases a c hc with h | ⟨q, m, e, h1, h2, fl, h3, h4⟩
  · exact .inl h
  · exact .inr ⟨q, m, e, h1, h2, fl, (hb q h1.1 h1.2).trans h3, h4⟩
theorem RowsW.wide {B M M' : Nat} {cs : List AV} (a : RowsW B M h cs) (hm : M ≤ M') : RowsW B M' h cs := fun c hc => by
  rcases a c hc with h | ⟨q, m, e, h1, h2⟩
  · exact .inl h
  · exact .inr ⟨q, m, e, ⟨h1.1, by omega⟩, h2⟩
theorem RowsW.low {B B' M : Nat} {cs : List AV} (a : RowsW B M h cs) (hm : B' ≤ B) : RowsW B' M h cs := fun c hc => by
  rcases a c hc with h | ⟨q, m, e, h1, h2⟩
  · exact .inl h
  · exact .inr ⟨q, m, e, ⟨by omega, h1.2⟩, h2⟩
theorem RowsW.put {B M q : Nat} {cs fl fl' : List AV} (a : RowsW B M h cs) (hb : h.bl q = some (.cells false true fl)) (hl : fl'.length = fl.length) : RowsW B M (h.put q (some (.cells false true fl'))) cs := fun c hc => by
  rcases a c hc with h | ⟨q', m, e, h1, h2, fl2, h3, h4⟩
  · exact .inl h
  · refine .inr ⟨q', m, e, h1, h2, ?_⟩
    by_cases hqq : q' = q
    · subst hqq
      rw [hb] at h3
      cases h3
      exact ⟨fl', by simp [Hp.put], by omega⟩
    · exact ⟨fl2, by simp only [Hp.put]; rw [if_neg hqq]; exact h3, h4⟩
theorem RowsLv.w {B o : Nat} {flat : List AV} {rows : List (List Int)} (r : RowsLv B h o flat rows) (hl : ∀ x ∈ rows, x.length ≤ 1000) : RowsW B h.nx h flat := fun c hc => by
  obtain ⟨j, hj⟩ := List.mem_iff_getElem?.1 hc
  have hlt : j < rows.length := by rw [← r.1.len]; exact (List.getElem?_eq_some_iff.1 hj).1
  rcases r.1.own j c hj with ⟨e, _⟩ | ⟨id, e, h1, h2⟩
  · exact .inl e
  · refine .inr ⟨id, _, e, (r.2.2.2 j id 0 _ 1 (by rw [hj, e])).1, hl _ (nth_mem hlt), _, h2, ?_⟩
    rw [flatMap_len (f := e1 I) (sz := 1)]; omega
/-- A list of rows that is alive, sealed whole: what else it touches. -/
theorem seal_live {flat : List AV} {rows : List (List Int)} {v : AV} (l : LiveL h v flat) (r : RowsAt (e1 I) 1 h flat rows) (hp : ∀ r ∈ rows, 0 < r.length) (ho : ∀ a ∈ rowIds v, ∀ (j off n s : Nat), flat[j]? ≠ some (AV.sl a off n s)) :
    ∃ h', sealA h v = some (L (e1 (L (e1 I))) rows, h') ∧ h'.nx = h.nx ∧ ∀ i, i ∉ rowIds v → (∀ (j off n s : Nat), flat[j]? ≠ some (AV.sl i off n s)) → h'.bl i = h.bl i := by
  rcases l with ⟨rfl, rfl⟩ | ⟨o, rfl, h1, hb⟩
  · have : rows = [] := List.eq_nil_of_length_eq_zero r.len.symm
    subst this
    exact ⟨h, rfl, rfl, fun _ _ _ => rfl⟩
  have hn := r.len
  have ho' : ∀ (j id off n s : Nat), flat[j]? = some (AV.sl id off n s) → id ≠ o := fun j id off n s hj e => by
    subst e
    exact ho id (by simp [rowIds]) j off n s hj
  rcases Nat.eq_zero_or_pos flat.length with h0 | h0
  · have hf : flat = [] := List.eq_nil_of_length_eq_zero h0
    subst hf
    have : rows = [] := List.eq_nil_of_length_eq_zero r.len.symm
    subst this
    refine ⟨h.put o (some (.cells true true [])), ?_, rfl, fun i hi _ => by rw [put_bl, if_neg (by simpa [rowIds] using hi)]⟩
    have hp0 : AV.pureL [] = true := rfl
    simp only [sealA, sealV, sealV0, hb, AV.isPure, hp0, if_true]
    rw [if_neg (by simp), if_pos ⟨trivial, by simp, by decide⟩]
    rfl
  · have hpu : AV.pureL flat = false := by
      obtain ⟨v0, h2⟩ : ∃ v0, flat[0]? = some v0 := ⟨_, List.getElem?_eq_getElem h0⟩
      obtain ⟨id, q, _⟩ := (r.own 0 v0 h2).sl (hp _ (nth_mem (by omega)))
      cases flat with
      | nil => cases h0
      | cons w ws =>
        simp only [List.getElem?_cons_zero, Option.some.injEq] at h2
        rw [h2, q]; rfl
    obtain ⟨h1', q1, e2, e3⟩ := sealCells0_rows flat rows h r
    have hb1 : h1'.bl o = some (.cells false true flat) := by rw [e3 o (fun k id off n s hk => (ho' k id off n s hk).symm)]; exact hb
    refine ⟨h1'.put o (some (.cells true true flat)), ?_, e2, fun i hi hni => ?_⟩
    · have hch : chunk 1 (rows.map (L (e1 I))) = rows.map (e1 (L (e1 I))) := by
        have h2 : ∀ l : List (List Int), l.map (L (e1 I)) = l.flatMap (e1 (L (e1 I))) := by
          intro l
          induction l with
          | nil => rfl
          | cons x xs ih => rw [List.flatMap_cons, List.map_cons, ih]; rfl
        rw [h2]; exact chunk_flatMap (f := e1 (L (e1 I))) rows
      have hlen : (rows.map (L (e1 I))).length = rows.length := by simp
      simp only [sealA, sealV, hb, hpu, q1, Option.bind_some, hb1]
      rw [if_neg (by simp), if_pos ⟨by omega, by decide⟩, List.drop_zero, List.take_of_length_le (by omega), hch]
    · rw [put_bl, if_neg (by simpa [rowIds] using hi)]
      exact e3 i (fun k id off n s hk e => hni k off n s (by rw [hk, e]))
/-! ### A list of rows and a list of numbers that are being built side by side -/
structure RN (h : Hp) (v w : AV) (flat : List AV) (rows : List (List Int)) (nums : List Int) : Prop where
  lv : LiveL h v flat
  rw : RowsAt (e1 I) 1 h flat rows
  ho : ∀ a ∈ rowIds v, ∀ (j off n s : Nat), flat[j]? ≠ some (AV.sl a off n s)
  ow : Own (e1 I) 1 h w nums
  dv : ∀ a ∈ rowIds w, a ∉ rowIds v ∧ ∀ (j off n s : Nat), flat[j]? ≠ some (AV.sl a off n s)
theorem RN.nil (h : Hp) : RN h .nil .nil [] [] [] := ⟨.inl ⟨rfl, rfl⟩, ⟨rfl, fun k v hv => by simp at hv, fun i j v w _ hv => by simp at hv⟩, by simp [rowIds], .inl ⟨rfl, rfl⟩, by simp [rowIds]⟩
theorem LiveL.lt {v : AV} {cs : List AV} (l : LiveL h v cs) {a : Nat} (ha : a ∈ rowIds v) : a < h.nx := by
  rcases l with ⟨rfl, _⟩ | ⟨q, rfl, h1, h2⟩
  · simp [rowIds] at ha
  · simp only [rowIds, List.mem_singleton] at ha; omega
theorem LiveL.lenB {v : AV} {cs : List AV} (l : LiveL h v cs) (e : TypeId) (g : Hp) (lim : Option Nat) : lenB (some (.slice e)) v g lim = some (I cs.length) := by
  rcases l with ⟨rfl, rfl⟩ | ⟨i, rfl, hi, hc⟩ <;> rfl
theorem own_lt {α : Type} {f : α → List AV} {sz : Nat} {v : AV} {xs : List α} (o : Own f sz h v xs) {a : Nat} (ha : a ∈ rowIds v) : a < h.nx := by
  rcases o with ⟨rfl, _⟩ | ⟨q, rfl, h1, h2⟩
  · simp [rowIds] at ha
  · simp only [rowIds, List.mem_singleton] at ha; omega
theorem RN.mono {v w : AV} {flat : List AV} {rows : List (List Int)} {nums : List Int} (m : RN h v w flat rows nums) (hn : h.nx ≤ h'.nx) (hb : ∀ i, i < h.nx → h'.bl i = h.bl i) : RN h' v w flat rows nums :=
  ⟨m.lv.mono hn fun i hi => hb i (m.lv.lt hi), m.rw.mono hn fun k id off n s hk => hb id (m.rw.lt hk), m.ho, m.ow.mono hn hb, m.dv⟩
theorem cellsOf_top (b : List AV) (n : Nat) (hn : n = b.length) : cellsOf (h.alloc (.cells false true b)) none (.sl h.nx 0 n 1) = some b := by
  subst hn
  have : rd (h.alloc (.cells false true b)) none h.nx = some b := by simp [rd, Hp.alloc, lims]
  simp [cellsOf, this]
/-- One number more. -/
theorem RN.num {v w : AV} {flat : List AV} {rows : List (List Int)} {nums : List Int} (m : RN h v w flat rows nums) (k : Int) (e : TypeId) (hs : isz P e = some 1) (hb : ibytes P e = some 8) (hz : izero P e = some (I 0)) (hl : nums.length ≤ 1000) :
    ∃ w' h', appB P (h.alloc (.cells false true [I k])) (some (.slice e)) true w (.sl h.nx 0 1 1) = some (w', h') ∧ RN h' v w' flat rows (nums ++ [k]) := by
  have hal : ∀ i, i < h.nx → (h.alloc (.cells false true [I k])).bl i = h.bl i := fun i hi => by simp [Hp.alloc, show ¬ i = h.nx by omega]
  have m1 := m.mono (h' := h.alloc (.cells false true [I k])) (Nat.le_succ _) hal
  have hx : cellsOf (h.alloc (.cells false true [I k])) none (.sl h.nx 0 1 1) = some ([k].flatMap (e1 I)) := cellsOf_top [I k] 1 rfl
  have happ := app_Own (P := P) m1.ow e 8 (I 0) (.sl h.nx 0 1 1) [k] hs hb hz rfl hx rfl (by simp; omega) (by simp; omega)
  refine ⟨_, _, happ, ?_⟩
  have key : ∀ i, i < (h.alloc (.cells false true [I k])).nx → i ∉ rowIds w → (appH (h.alloc (.cells false true [I k])) w ((nums ++ [k]).flatMap (e1 I))).bl i = (h.alloc (.cells false true [I k])).bl i := fun i hi hni => appH_bl _ _ _ _ hi fun id off n s e e2 => by
    subst e; exact hni (by simp [rowIds, e2])
  have hnx : (h.alloc (.cells false true [I k])).nx ≤ (appH (h.alloc (.cells false true [I k])) w ((nums ++ [k]).flatMap (e1 I))).nx := by rw [appH_nx]; omega
  refine ⟨m1.lv.mono hnx fun i hi => key i (m1.lv.lt hi) fun hw => (m.dv i hw).1 hi, m1.rw.mono hnx fun j id off n s hj => key id (m1.rw.lt hj) fun hw => (m.dv id hw).2 j off n s hj, m.ho, Own.app _ _ _, fun a ha => ?_⟩
  have ha : a = (h.alloc (.cells false true [I k])).nx := by simpa [appV, rowIds] using ha
  subst ha
  refine ⟨fun hv => ?_, fun j off n s hj => ?_⟩
  · have := m1.lv.lt hv; omega
  · have := m1.rw.lt hj; omega
/-- One row more. -/
theorem RN.row {v w : AV} {flat : List AV} {rows : List (List Int)} {nums : List Int} (m : RN h v w flat rows nums) (r : List Int) (e : TypeId) (hs : isz P e = some 1) (hb : ibytes P e = some 24) (hz : izero P e = some .nil) (hl : flat.length ≤ 1000) :
    ∃ v' h' c, appB P ((h.alloc (.cells false true (r.flatMap (e1 I)))).alloc (.cells false true [.sl h.nx 0 r.length 1])) (some (.slice e)) true v (.sl (h.alloc (.cells false true (r.flatMap (e1 I)))).nx 0 1 1) = some (v', h') ∧ RN h' v' w (flat ++ [c]) (rows ++ [r]) nums ∧ h.nx ≤ h'.nx := by
  have hal : ∀ i, i < h.nx → (h.alloc (.cells false true (r.flatMap (e1 I)))).bl i = h.bl i := fun i hi => by simp [Hp.alloc, show ¬ i = h.nx by omega]
  have m1 := m.mono (h' := h.alloc (.cells false true (r.flatMap (e1 I)))) (Nat.le_succ _) hal
  have hcell : ∀ d ∈ flat, d.isCell = true := fun d hd => by
    obtain ⟨j, hj⟩ := List.mem_iff_getElem?.1 hd
    rcases m.rw.own j d hj with ⟨e, _⟩ | ⟨id, e, _⟩ <;> subst e <;> rfl
  obtain ⟨H2, k1, k2, k3, k4⟩ := live_step (P := P) (c := .sl h.nx 0 r.length 1) m1.lv hcell rfl e hs hb hz hl
  have hn1 : (h.alloc (.cells false true (r.flatMap (e1 I)))).nx = h.nx + 1 := rfl
  rw [hn1] at k2 k4
  refine ⟨_, H2, .sl h.nx 0 r.length 1, k1, ⟨k3, ?_, fun a ha j off n s hj => ?_, ?_, fun a ha => ?_⟩, by omega⟩
  · refine RowsAt.snoc (m1.rw.mono (by rw [hn1]; omega) fun j id off n s hj => k4 id (by have := m.rw.lt hj; omega) fun hv => m.ho id hv j off n s hj) (.inr ⟨h.nx, rfl, by omega, ?_⟩) fun j c hj => ?_
    · rw [k4 h.nx (by omega) fun hv => by have := m.lv.lt hv; omega]
      simp [Hp.alloc]
    · intro id off n s id' off' n' s' e1 e2
      subst e1; cases e2
      have := m.rw.lt hj; omega
  · have ha : a = h.nx + 1 + 1 := by simpa [rowIds, hn1] using ha
    subst ha
    rcases Nat.lt_or_ge j flat.length with hjl | hjl
    · rw [List.getElem?_append_left hjl] at hj
      have := m.rw.lt hj; omega
    · rw [List.getElem?_append_right hjl] at hj
      have : j - flat.length = 0 := by
        rcases Nat.eq_zero_or_pos (j - flat.length) with h | h
        · exact h
        · rw [List.getElem?_eq_none (by simp; omega)] at hj; cases hj
      rw [this] at hj
      simp at hj; omega
  · rcases m1.ow with ⟨e, q⟩ | ⟨id, rfl, h1, h2⟩
    · exact .inl ⟨e, q⟩
    · have hid : id < h.nx := own_lt m.ow (by simp [rowIds])
      exact .inr ⟨id, rfl, by omega, (k4 id (by omega) (m.dv id (by simp [rowIds])).1).trans h2⟩
  · have hlt : a < h.nx := own_lt m.ow ha
    refine ⟨fun hv => ?_, fun j off n s hj => ?_⟩
    · have : a = h.nx + 1 + 1 := by simpa [rowIds, hn1] using hv
      omega
    · rcases Nat.lt_or_ge j flat.length with hjl | hjl
      · rw [List.getElem?_append_left hjl] at hj
        exact (m.dv a ha).2 j off n s hj
      · rw [List.getElem?_append_right hjl] at hj
        have : j - flat.length = 0 := by
          rcases Nat.eq_zero_or_pos (j - flat.length) with h | h
          · exact h
          · rw [List.getElem?_eq_none (by simp; omega)] at hj; cases hj
        rw [this] at hj
        simp at hj; omega
/-- Both, handed over. -/
theorem RN.export {v w : AV} {flat : List AV} {rows : List (List Int)} {nums : List Int} (m : RN h v w flat rows nums) (h1 : 0 < rows.length) (h2 : 0 < nums.length) (hp : ∀ r ∈ rows, 0 < r.length) (t u x : TypeId) (k : Int) :
    exportR P true true [t, u, x] h (.tup [v, w, I k]) = some (.tup [.own (.fresh 1 (frR rows)), .own (.fresh 1 (nums.flatMap (e1 I))), I k]) := by
  have hlen := m.rw.len
  obtain ⟨o, rfl, ho1, hob⟩ : ∃ o, v = .sl o 0 flat.length 1 ∧ o < h.nx ∧ h.bl o = some (.cells false true flat) := by
    rcases m.lv with ⟨_, e⟩ | l
    · rw [e] at hlen; simp at hlen; omega
    · exact l
  obtain ⟨id, rfl, hi1, hib⟩ := m.ow.sl h2
  obtain ⟨u', hu, hu2⟩ := freshV_at m.rw hp o hob (fun j id off n s hj e => by
    subst e; exact m.ho id (by simp [rowIds]) j off n s hj)
  rw [← hlen] at hu
  have hiu : id ∉ u' := fun hh => by
    rcases hu2 id hh with e | ⟨j, off, n, s, hj⟩
    · exact (m.dv id (by simp [rowIds])).1 (by simp [rowIds, e])
    · exact (m.dv id (by simp [rowIds])).2 j off n s hj
  have x1 : exportV P true true t h [] (.sl o 0 flat.length 1) = some (.own (.fresh 1 (frR rows)), h, u') := by
    unfold exportV
    rw [if_pos rfl, if_pos rfl, if_neg (by simp [AV.isPure]), hu]; rfl
  have x2 : exportV P true true u h u' (.sl id 0 nums.length 1) = some (.own (.fresh 1 (nums.flatMap (e1 I))), h, id :: u') := by
    unfold exportV
    rw [if_pos rfl, if_pos rfl, if_neg (by simp [AV.isPure])]
    show (((freshN h 4 u' (.sl id 0 nums.length 1)).map _).map _) = _
    rw [freshN_own (f := e1 I) (sz := 1) (k := 3) hib rfl hiu]; rfl
  show (exportL P true true h [] [t, u, x] [.sl o 0 flat.length 1, .sl id 0 nums.length 1, I k]).map AV.tup = _
  simp only [exportL, x1, x2, Option.bind_some]
  rfl
/-- Onto a list of rows: what another one holds. -/
theorem app_cells {o n m : Nat} {cs ds : List AV} {x : AV} (e : TypeId) (hs : isz P e = some 1) (hb : ibytes P e = some 24) (hz : izero P e = some .nil) (hbl : h.bl o = some (.cells false true cs)) (hn : cs.length = n) (hx : cellsOf h none x = some ds) (hl : lenA x = some m) (hm : ds.length = m) (hc : ds.all AV.isCell = true) (h1 : n + m ≤ 1000) :
    appB P h (some (.slice e)) true (.sl o 0 n 1) x = some (.sl h.nx 0 (n + m) 1, (h.put o none).alloc (.cells false true (cs ++ ds))) := by
  simp only [appB, hs, hb, hz, hx, hl, hbl]
  rw [if_pos ⟨trivial, by decide, rfl, by omega, hc⟩, if_pos ⟨trivial, by omega, by omega, by omega⟩]
end
end Go.Am

