/-
  Lists of lists that are alive, row by row: how they grow, how they are handed over, and what the caller gets.
-/
import Derived.Test.YtihnplomlphfjaaAmMore
set_option linter.unusedVariables false
set_option linter.unusedSimpArgs false
namespace Go.Am
open Go

section
variable {P : Program} {h h' : Hp}

/-- A place to stop at. -/
def WPz (P : Program) (cfg : Cfg) (c : Code) (st : St) (h : Hp) (Q : Exit → St → Hp → Prop) : Prop := WP P cfg c st h Q
theorem WPz_congr {P : Program} {cfg : Cfg} {c : Code} {st st' : St} {h h' : Hp} {Q : Exit → St → Hp → Prop} (e : st = st') (e2 : h = h') : WPz P cfg c st h Q = WPz P cfg c st' h' Q := by rw [e, e2]
attribute [congr] WPz_congr
theorem stopZ (n : Nat) (d : Bool) {P : Program} {cfg : Cfg} {ops : Array Oper} {st : St} {h : Hp} {Q : Exit → St → Hp → Prop} : WP P cfg (.region n ops d) st h Q = WPz P cfg (.region n ops d) st h Q := rfl
theorem WPz_go {P : Program} {cfg : Cfg} {c : Code} {st : St} {h : Hp} {Q : Exit → St → Hp → Prop} (F : St → Hp → Prop) (hF : F st h) (hw : ∀ st h, F st h → WP P cfg c st h Q) : WPz P cfg c st h Q := hw st h hF

def rowIds : AV → List Nat
  | .sl id _ _ _ => [id]
  | _ => []
/-- A row of numbers that is alive. -/
def RowC (h : Hp) (c : AV) : Prop := c = .nil ∨ ∃ (q : Nat) (r : List Int), c = .sl q 0 r.length 1 ∧ q < h.nx ∧ h.bl q = some (.cells false true (r.flatMap (e1 I))) ∧ r.length ≤ 1000
/-- A list of such rows. -/
def LiveL (h : Hp) (v : AV) (cs : List AV) : Prop := (v = .nil ∧ cs = []) ∨ ∃ id, v = .sl id 0 cs.length 1 ∧ id < h.nx ∧ h.bl id = some (.cells false true cs)
theorem RowC.cell {c : AV} (r : RowC h c) : c.isCell = true := by
  rcases r with rfl | ⟨q, r, rfl, _⟩ <;> rfl
theorem RowC.cells {c : AV} (r : RowC h c) : c.cells = [c] := by
  rcases r with rfl | ⟨q, r, rfl, _⟩ <;> rfl
theorem RowC.mono {c : AV} (r : RowC h c) (hn : h.nx ≤ h'.nx) (hb : ∀ i ∈ rowIds c, h'.bl i = h.bl i) : RowC h' c := by
  rcases r with rfl | ⟨q, r, rfl, h1, h2, h3⟩
  · exact .inl rfl
  · exact .inr ⟨q, r, rfl, by omega, (hb q (by simp [rowIds])).trans h2, h3⟩
theorem LiveL.mono {v : AV} {cs : List AV} (l : LiveL h v cs) (hn : h.nx ≤ h'.nx) (hb : ∀ i ∈ rowIds v, h'.bl i = h.bl i) : LiveL h' v cs := by
  rcases l with l | ⟨q, rfl, h1, h2⟩
  · exact .inl l
  · exact .inr ⟨q, rfl, by omega, (hb q (by simp [rowIds])).trans h2⟩
theorem LiveL.cell {v : AV} {cs : List AV} (l : LiveL h v cs) : v.isCell = true := by
  rcases l with ⟨rfl, _⟩ | ⟨q, rfl, _⟩ <;> rfl
theorem LiveL.cells {v : AV} {cs : List AV} (l : LiveL h v cs) : v.cells = [v] := by
  rcases l with ⟨rfl, _⟩ | ⟨q, rfl, _⟩ <;> rfl
/-- One row more. -/
theorem live_step {v : AV} {cs : List AV} {c : AV} (l : LiveL h v cs) (hcs : ∀ d ∈ cs, d.isCell = true) (hc : c.isCell = true) (e : TypeId) (hs : isz P e = some 1) (hb : ibytes P e = some 24) (hz : izero P e = some .nil) (hl : cs.length ≤ 1000) :
    ∃ H2, appB P (h.alloc (.cells false true [c])) (some (.slice e)) true v (.sl h.nx 0 1 1) = some (.sl (h.nx + 1) 0 (cs.length + 1) 1, H2) ∧ H2.nx = h.nx + 2 ∧ LiveL H2 (.sl (h.nx + 1) 0 (cs.length + 1) 1) (cs ++ [c]) ∧
      (∀ i, i < h.nx → i ∉ rowIds v → H2.bl i = h.bl i) := by
  have hx : cellsOf (h.alloc (.cells false true [c])) none (.sl h.nx 0 1 1) = some [c] := by
    have : rd (h.alloc (.cells false true [c])) none h.nx = some [c] := by simp [rd, Hp.alloc, lims]
    simp [cellsOf, this]
  rcases l with ⟨rfl, rfl⟩ | ⟨id, rfl, h1, h2⟩
  · refine ⟨(h.alloc (.cells false true [c])).alloc (.cells false true [c]), ?_, rfl, .inr ⟨h.nx + 1, by simp, by simp [Hp.alloc], by simp [Hp.alloc]⟩, fun i hi _ => ?_⟩
    · simp only [appB, hs, hb, hz, hx, lenA]
      rw [if_pos ⟨trivial, by decide, rfl, rfl, by simp [hc]⟩, if_pos ⟨by omega, by omega⟩]
      rfl
    · simp [Hp.alloc, show ¬ i = h.nx + 1 by omega, show ¬ i = h.nx by omega]
  · have hid : (h.alloc (.cells false true [c])).bl id = some (.cells false true cs) := by simp [Hp.alloc, show ¬ id = h.nx by omega, h2]
    refine ⟨((h.alloc (.cells false true [c])).put id none).alloc (.cells false true (cs ++ [c])), ?_, rfl, .inr ⟨h.nx + 1, by simp, by simp [Hp.alloc, Hp.put], by simp [Hp.alloc, Hp.put]⟩, fun i hi hni => ?_⟩
    · simp only [appB, hs, hb, hz, hx, lenA, hid]
      rw [if_pos ⟨trivial, by decide, rfl, rfl, by simp [hc]⟩, if_pos ⟨trivial, by omega, by omega, by omega⟩]
      rfl
    · have : i ≠ id := fun e => hni (by simp [rowIds, e])
      simp [Hp.alloc, Hp.put, show ¬ i = h.nx + 1 by omega, this, show ¬ i = h.nx by omega]

/-! ### Handed over -/
/-! ### Two such lists side by side -/
def cnt4 (pv tv : AV) (cs ds : List AV) (a : Nat) : Nat := (rowIds pv).count a + (rowIds tv).count a + (cs.flatMap rowIds).count a + (ds.flatMap rowIds).count a
structure LN (B : Nat) (h : Hp) (pv tv : AV) (cs ds : List AV) : Prop where
  lp : LiveL h pv cs
  lt : LiveL h tv ds
  rp : ∀ c ∈ cs, RowC h c
  rt : ∀ d ∈ ds, RowC h d
  cnt : ∀ a, cnt4 pv tv cs ds a ≤ 1
  bnd : ∀ a, 0 < cnt4 pv tv cs ds a → B ≤ a ∧ a < h.nx
theorem count_row {c : AV} {cs : List AV} (hc : c ∈ cs) {a : Nat} (ha : a ∈ rowIds c) : 0 < (cs.flatMap rowIds).count a := List.count_pos_iff.2 (List.mem_flatMap.2 ⟨c, hc, ha⟩)
theorem LN.keep {B : Nat} {pv tv : AV} {cs ds : List AV} (L : LN B h pv tv cs ds) (hn : h.nx ≤ h'.nx) (hb : ∀ i, B ≤ i → i < h.nx → h'.bl i = h.bl i) : LN B h' pv tv cs ds := by
  have key : ∀ i, 0 < cnt4 pv tv cs ds i → h'.bl i = h.bl i := fun i hi => hb i (L.bnd i hi).1 (L.bnd i hi).2
  refine ⟨L.lp.mono hn fun i hi => key i ?_, L.lt.mono hn fun i hi => key i ?_, fun c hc => (L.rp c hc).mono hn fun i hi => key i ?_, fun c hc => (L.rt c hc).mono hn fun i hi => key i ?_, L.cnt, fun a ha => ⟨(L.bnd a ha).1, by have := (L.bnd a ha).2; omega⟩⟩
  · have := List.count_pos_iff.2 hi; unfold cnt4; omega
  · have := List.count_pos_iff.2 hi; unfold cnt4; omega
  · have := count_row hc hi; unfold cnt4; omega
  · have := count_row hc hi; unfold cnt4; omega
theorem LN.swap {B : Nat} {pv tv : AV} {cs ds : List AV} (L : LN B h pv tv cs ds) : LN B h tv pv ds cs :=
  ⟨L.lt, L.lp, L.rt, L.rp, fun a => by have := L.cnt a; unfold cnt4 at this ⊢; omega, fun a ha => L.bnd a (by unfold cnt4 at ha ⊢; omega)⟩
/-- A row that is new. -/
def NewRow (B : Nat) (h : Hp) (c : AV) (N : Nat) : Prop := RowC h c ∧ ∀ a ∈ rowIds c, B ≤ a ∧ N ≤ a
theorem LN.step {B : Nat} {pv tv : AV} {cs ds : List AV} {c : AV} {h0 : Hp} (L : LN B h0 pv tv cs ds) (hn0 : h0.nx ≤ h.nx) (hb0 : ∀ i, B ≤ i → i < h0.nx → h.bl i = h0.bl i) (hc : NewRow B h c h0.nx) (hB : B ≤ h.nx) (e : TypeId) (hs : isz P e = some 1) (hb : ibytes P e = some 24) (hz : izero P e = some .nil) (hl : cs.length ≤ 1000) :
    ∃ H2, appB P (h.alloc (.cells false true [c])) (some (.slice e)) true pv (.sl h.nx 0 1 1) = some (.sl (h.nx + 1) 0 (cs.length + 1) 1, H2) ∧ H2.nx = h.nx + 2 ∧ LN B H2 (.sl (h.nx + 1) 0 (cs.length + 1) 1) tv (cs ++ [c]) ds ∧ (∀ i, i < B → H2.bl i = h.bl i) := by
  have L1 := L.keep hn0 hb0
  obtain ⟨H2, k1, k2, k3, k4⟩ := live_step L1.lp (fun d hd => (L1.rp d hd).cell) hc.1.cell e hs hb hz hl
  have cz : ∀ a ∈ rowIds c, cnt4 pv tv cs ds a = 0 := fun a ha => by
    have h1 := (hc.2 a ha).2
    rcases Nat.eq_zero_or_pos (cnt4 pv tv cs ds a) with h | h
    · exact h
    · have := (L.bnd a h).2; omega
  have cc : ∀ a, (rowIds c).count a ≤ 1 := fun a => by
    rcases hc.1 with rfl | ⟨q, r, rfl, _⟩
    · simp [rowIds]
    · simp only [rowIds, List.count_cons, List.count_nil]; split <;> omega
  have keep : ∀ i, i < h.nx → i ∉ rowIds pv → H2.bl i = h.bl i := k4
  have pvn : ∀ i, (0 < (rowIds tv).count i ∨ 0 < (cs.flatMap rowIds).count i ∨ 0 < (ds.flatMap rowIds).count i) → i < h.nx ∧ i ∉ rowIds pv := fun i hi => by
    have h1 := L1.cnt i
    have h2 := (L1.bnd i (by unfold cnt4; omega)).2
    refine ⟨h2, fun hp => ?_⟩
    have := List.count_pos_iff.2 hp
    unfold cnt4 at h1; omega
  refine ⟨H2, k1, k2, ⟨k3, L1.lt.mono (by omega) fun i hi => ?_, fun d hd => ?_, fun d hd => (L1.rt d hd).mono (by omega) fun i hi => ?_, fun a => ?_, fun a ha => ?_⟩, fun i hi => ?_⟩
  · obtain ⟨q1, q2⟩ := pvn i (.inl (List.count_pos_iff.2 hi))
    exact keep i q1 q2
  · rcases List.mem_append.1 hd with hd | hd
    · refine (L1.rp d hd).mono (by omega) fun i hi => ?_
      obtain ⟨q1, q2⟩ := pvn i (.inr (.inl (count_row hd hi)))
      exact keep i q1 q2
    · rw [List.mem_singleton.1 hd]
      refine hc.1.mono (by omega) fun i hi => ?_
      have hz0 := cz i hi
      have hlt : i < h.nx := by
        rcases hc.1 with rfl | ⟨q, r, rfl, h1, _⟩
        · simp [rowIds] at hi
        · simp only [rowIds, List.mem_singleton] at hi; omega
      refine keep i hlt fun hp => ?_
      have := List.count_pos_iff.2 hp
      unfold cnt4 at hz0; omega
  · obtain ⟨q1, q2⟩ := pvn i (.inr (.inr (count_row hd hi)))
    exact keep i q1 q2
  · have h1 := L1.cnt a
    have h2 := cc a
    have e1' : ((cs ++ [c]).flatMap rowIds).count a = (cs.flatMap rowIds).count a + (rowIds c).count a := by simp [List.flatMap_append, List.count_append]
    have e2' : (rowIds (.sl (h.nx + 1) 0 (cs.length + 1) 1)).count a = if h.nx + 1 = a then 1 else 0 := by simp only [rowIds, List.count_cons, List.count_nil, beq_iff_eq]; split <;> rfl
    unfold cnt4 at h1 ⊢
    rw [e1', e2']
    by_cases hca : 0 < (rowIds c).count a
    · have hz0 := cz a (List.count_pos_iff.1 hca)
      have hlt : a < h.nx := by
        have := List.count_pos_iff.1 hca
        rcases hc.1 with rfl | ⟨q, r, rfl, h1, _⟩
        · simp [rowIds] at this
        · simp only [rowIds, List.mem_singleton] at this; omega
      unfold cnt4 at hz0
      rw [if_neg (by omega)]; omega
    · split
      · have h3 : ¬ 0 < cnt4 pv tv cs ds a := fun hp => by have := (L1.bnd a hp).2; omega
        unfold cnt4 at h3; omega
      · omega
  · have e1' : ((cs ++ [c]).flatMap rowIds).count a = (cs.flatMap rowIds).count a + (rowIds c).count a := by simp [List.flatMap_append, List.count_append]
    have e2' : (rowIds (.sl (h.nx + 1) 0 (cs.length + 1) 1)).count a = if h.nx + 1 = a then 1 else 0 := by simp only [rowIds, List.count_cons, List.count_nil, beq_iff_eq]; split <;> rfl
    unfold cnt4 at ha
    rw [e1', e2'] at ha
    by_cases hN : h.nx + 1 = a
    · omega
    rw [if_neg hN] at ha
    by_cases hca : 0 < (rowIds c).count a
    · have h1 := hc.2 a (List.count_pos_iff.1 hca)
      have hlt : a < h.nx := by
        have := List.count_pos_iff.1 hca
        rcases hc.1 with rfl | ⟨q, r, rfl, h1, _⟩
        · simp [rowIds] at this
        · simp only [rowIds, List.mem_singleton] at this; omega
      omega
    · have := L1.bnd a (by unfold cnt4; omega)
      omega
  · refine keep i (by omega) fun hp => ?_
    have h1 := List.count_pos_iff.2 hp
    have := (L1.bnd i (by unfold cnt4; omega)).1
    omega
/-! ### What the caller gets -/
/-- A row that may be written: none, or a block of its own from B on. -/
def RowW (B : Nat) (h : Hp) (c : AV) : Prop := c = .nil ∨ ∃ (q m : Nat) (fl : List AV), c = .sl q 0 m 1 ∧ B ≤ q ∧ q < h.nx ∧ h.bl q = some (.cells false true fl) ∧ fl.length = m ∧ m ≤ 1000
theorem RowW.mono {B : Nat} {c : AV} (r : RowW B h c) (hn : h.nx ≤ h'.nx) (hb : ∀ i, B ≤ i → i < h.nx → h'.bl i = h.bl i) : RowW B h' c := by
  rcases r with rfl | ⟨q, m, fl, rfl, h1, h2, h3, h4⟩
  · exact .inl rfl
  · exact .inr ⟨q, m, fl, rfl, h1, by omega, (hb q h1 h2).trans h3, h4⟩
/-- The same, with what holds of it named. -/
def LR (B M : Nat) (h : Hp) (id : Nat) (cs : List AV) : Prop := h.bl id = some (.cells false true cs) ∧ (B ≤ id ∧ id < M) ∧ ∀ c ∈ cs, c = .nil ∨ ∃ q m, c = .sl q 0 m 1 ∧ (B ≤ q ∧ q < M) ∧ (q ≠ id ∧ m ≤ 1000) ∧ ∃ fl, h.bl q = some (.cells false true fl) ∧ fl.length = m
theorem LR.keep {B M id : Nat} {cs : List AV} (l : LR B M h id cs) (hb : ∀ i, B ≤ i → i < M → h'.bl i = h.bl i) : LR B M h' id cs := by
  obtain ⟨h1, h2, h3⟩ := l
  refine ⟨(hb id h2.1 h2.2).trans h1, h2, fun c hc => ?_⟩
  rcases h3 c hc with h | ⟨q, m, e, k1, k2, fl, k3, k4⟩
  · exact .inl h
  · exact .inr ⟨q, m, e, k1, k2, fl, (hb q k1.1 k1.2).trans k3, k4⟩
theorem LR.put {B M id q : Nat} {cs fl fl' : List AV} (l : LR B M h id cs) (hq : q ≠ id) (hb : h.bl q = some (.cells false true fl)) (hl : fl'.length = fl.length) : LR B M (h.put q (some (.cells false true fl'))) id cs := by
  obtain ⟨h1, h2, h3⟩ := l
  refine ⟨by simp only [Hp.put]; rw [if_neg (Ne.symm hq)]; exact h1, h2, fun c hc => ?_⟩
  rcases h3 c hc with h | ⟨q', m, e, k1, k2, fl2, k3, k4⟩
  · exact .inl h
  · refine .inr ⟨q', m, e, k1, k2, ?_⟩
    by_cases hqq : q' = q
    · subst hqq
      rw [hb] at k3
      cases k3
      exact ⟨fl', by simp [Hp.put], by omega⟩
    · exact ⟨fl2, by simp only [Hp.put]; rw [if_neg hqq]; exact k3, k4⟩
end
end Go.Am

