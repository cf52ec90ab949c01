/-
  Operations that make nothing and write nothing: all of them.
-/
import Derived.Test.YtcdpkgmkckfonaaAmOps
set_option linter.unusedVariables false
set_option linter.unusedSimpArgs false
namespace Go.Am
open Go Go.RowKit

variable {P : Program} {w : World} {c : Ctx}

theorem flatten_len {α : Type} {xs : List (List α)} {sz : Nat} (hu : ∀ x ∈ xs, x.length = sz) : xs.flatten.length = xs.length * sz := by
  induction xs with
  | nil => simp
  | cons x xs ih =>
    simp only [List.flatten_cons, List.length_append, List.length_cons, ih (fun y hy => hu y (List.mem_cons_of_mem _ hy)), hu x List.mem_cons_self]
    rw [Nat.add_mul]; omega
theorem flatten_drop {α : Type} {xs : List (List α)} {sz : Nat} (hu : ∀ x ∈ xs, x.length = sz) (a : Nat) : (xs.drop a).flatten = xs.flatten.drop (a * sz) := by
  induction a generalizing xs with
  | zero => simp
  | succ a ih =>
    cases xs with
    | nil => simp
    | cons x xs =>
      simp only [List.drop_succ_cons, List.flatten_cons]
      rw [ih (fun y hy => hu y (List.mem_cons_of_mem _ hy)), List.drop_append, hu x List.mem_cons_self]
      have h1 : (a + 1) * sz - sz = a * sz := by rw [Nat.add_mul]; omega
      have h2 : x.drop ((a + 1) * sz) = [] := by
        apply List.drop_of_length_le
        rw [hu x List.mem_cons_self, Nat.add_mul]; omega
      rw [h1, h2]; simp
theorem flatten_take {α : Type} {xs : List (List α)} {sz : Nat} (hu : ∀ x ∈ xs, x.length = sz) (a : Nat) : (xs.take a).flatten = xs.flatten.take (a * sz) := by
  induction a generalizing xs with
  | zero => simp
  | succ a ih =>
    cases xs with
    | nil => simp
    | cons x xs =>
      simp only [List.take_succ_cons, List.flatten_cons]
      rw [ih (fun y hy => hu y (List.mem_cons_of_mem _ hy)), List.take_append, hu x List.mem_cons_self]
      have h1 : (a + 1) * sz - sz = a * sz := by rw [Nat.add_mul]; omega
      have h2 : x.take ((a + 1) * sz) = x := by
        apply List.take_of_length_le
        rw [hu x List.mem_cons_self, Nat.add_mul]; omega
      rw [h1, h2]
theorem flatten_at {α : Type} {xs : List (List α)} {sz : Nat} (hu : ∀ x ∈ xs, x.length = sz) {j : Nat} {cs : List α} (hj : xs[j]? = some cs) (i : Nat) (hi : i < cs.length) : xs.flatten[j * sz + i]? = cs[i]? := by
  have hm := List.mem_of_getElem? hj
  have h1 : xs.drop j = cs :: xs.drop (j + 1) := by
    obtain ⟨hlt, e⟩ := List.getElem?_eq_some_iff.1 hj
    rw [List.drop_eq_getElem_cons hlt, e]
  have h2 := flatten_drop hu j
  rw [h1] at h2
  rw [← List.getElem?_drop, ← h2, List.flatten_cons, List.getElem?_append_left hi]

theorem VR.lst_at {xs : List (List AV)} {x : Value} (h : VR w c (.lst xs) x) {j : Nat} {cs : List AV} (hj : xs[j]? = some cs) :
    ∃ a cap, x = .slice (some a) xs.length cap ∧ VR w c (.pp cs) (.pointer (some (a.add (j * cs.length)))) := by
  cases h with
  | lst0 => simp at hj
  | lst _ a cap sz cv hcap hfz hu hcell hc hv =>
    have hm := List.mem_of_getElem? hj
    have hsz := hu cs hm
    refine ⟨a, cap, rfl, .pp cs _ (fun i => cv (j * sz + i)) ?_ ?_ ?_ ?_⟩
    · intro _; rw [add_block]; exact hfz (by rintro rfl; simp at hj)
    · intro y hy; exact hcell y (List.mem_flatten.2 ⟨cs, hm, hy⟩)
    · intro i hi
      rw [hsz, add_add]
      apply hc
      have := flatten_at hu hj i hi
      rw [List.getElem?_eq_getElem hi] at this
      exact (List.getElem?_eq_some_iff.1 this).1
    · intro i y hy
      apply hv
      rw [flatten_at hu hj i (List.getElem?_eq_some_iff.1 hy).1]; exact hy

theorem VR.lst_len {xs : List (List AV)} {x : Value} (h : VR w c (.lst xs) x) : ∃ A cap, x = .slice A xs.length cap ∧ xs.length ≤ cap ∧ cap ≤ maxLen ∧ (A = none → cap = 0) := by
  cases h with
  | lst0 => exact ⟨none, 0, rfl, Nat.le_refl _, by simp, fun _ => rfl⟩
  | lst _ a cap sz cv hcap hfz hu hcell hc hv => exact ⟨some a, cap, rfl, hcap.1, hcap.2, fun h => by cases h⟩

theorem VR.lst_slice {xs : List (List AV)} {A : Option Addr} {cap n : Nat} (h : VR w c (.lst xs) (.slice A n cap)) {sz a b : Nat} (hb : b ≤ n) (ha : a ≤ b) (hsz : ∀ x ∈ xs, x.length = sz) :
    VR w c (.lst ((xs.take b).drop a)) (.slice (if cap = a then A else A.map (·.add (a * sz))) (b - a) (cap - a)) := by
  cases h with
  | lst0 =>
    have : b = 0 := by omega
    have : a = 0 := by omega
    subst_vars
    simpa using VR.lst0
  | lst _ ad cap sz' cv hcap hfz hu hcell hc hv =>
    have hlen : ((xs.take b).drop a).length = b - a := by simp; omega
    by_cases he : cap = a
    · have hz : b - a = 0 := by omega
      have hnil : (xs.take b).drop a = [] := List.eq_nil_of_length_eq_zero (by omega)
      rw [if_pos he, hnil, hz]
      exact .lst [] ad (cap - a) 0 (fun _ => Go.undef) ⟨by simp, by omega⟩ (fun h => absurd rfl h) (by simp) (by simp) (by simp) (by simp)
    · rw [if_neg he, Option.map_some, ← hlen]
      have hsub : ∀ x ∈ (xs.take b).drop a, x ∈ xs := fun x hx => List.mem_of_mem_take (List.mem_of_mem_drop hx)
      have hfl : ((xs.take b).drop a).flatten = (xs.flatten.take (b * sz)).drop (a * sz) := by
        rw [flatten_drop (fun x hx => hsz x (List.mem_of_mem_take hx)), flatten_take hsz]
      refine .lst _ _ _ sz (fun j => cv (a * sz + j)) ⟨by rw [hlen]; omega, by omega⟩ ?_ (fun x hx => hsz x (hsub x hx)) ?_ ?_ ?_
      · intro hne
        rw [add_block]
        refine hfz ?_
        rintro rfl
        simp at hne
      · intro x hx
        obtain ⟨l, hl, hx⟩ := List.mem_flatten.1 hx
        exact hcell x (List.mem_flatten.2 ⟨l, hsub l hl, hx⟩)
      · intro j hj
        rw [add_add]
        apply hc
        rw [hfl] at hj
        simp only [List.length_drop, List.length_take] at hj
        omega
      · intro j x hj
        apply hv
        rw [hfl, List.getElem?_drop, List.getElem?_take] at hj
        split at hj
        · exact hj
        · cases hj

theorem VR.nil_inv {x : Value} (h : VR w c .nil x) : x = .slice none 0 0 := by cases h; rfl
theorem VR.sl_inv {id off n sz : Nat} {x : Value} (h : VR w c (.sl id off n sz) x) : id < c.nx ∧ SlOk w (c.loc id) off n sz x := by cases h; exact ⟨by assumption, by assumption⟩
theorem VR.ptr_inv {id off : Nat} {x : Value} (h : VR w c (.ptr id off) x) : id < c.nx ∧ PtOk (c.loc id) off x := by cases h; exact ⟨by assumption, by assumption⟩
theorem VR.mp_inv {id : Nat} {x : Value} (h : VR w c (.mp id) x) : id < c.nx ∧ MpOk (c.loc id) x := by cases h; exact ⟨by assumption, by assumption⟩
theorem VR.int_inv {k : IntKind} {n : Int} {x : Value} (h : VR w c (.int k n) x) : x = .int k n := by cases h; rfl
theorem VR.bool_inv {n : Bool} {x : Value} (h : VR w c (.bool n) x) : x = .bool n := by cases h; rfl
theorem VR.sz {xs : List (List AV)} {x : Value} (h : VR w c (.lst xs) x) : ∃ sz, ∀ y ∈ xs, y.length = sz := by
  cases h with
  | lst0 => exact ⟨0, by simp⟩
  | lst _ a cap sz cv hcap hfz hu hcell hc hv => exact ⟨sz, hu⟩

theorem VR.pp_drop {cs : List AV} {x : Value} (h : VR w c (.pp cs) x) (n : Nat) : ∃ a, x = .pointer (some a) ∧ VR w c (.pp (cs.drop n)) (.pointer (some (a.add n))) := by
  cases h with
  | pp _ a cv hfz hcell hc hv =>
    refine ⟨a, rfl, .pp _ _ (fun j => cv (n + j)) ?_ (fun x hx => hcell x (List.mem_of_mem_drop hx)) ?_ ?_⟩
    · intro hne
      rw [add_block]
      refine hfz ?_
      rintro rfl
      simp at hne
    · intro j hj
      rw [add_add]
      apply hc
      simp only [List.length_drop] at hj
      omega
    · intro j x hj
      apply hv
      rw [List.getElem?_drop] at hj
      exact hj

/-- One cell after the other. -/
theorem setL_get (cs : List AV) : ∀ (l : List AV) (off : Nat), off + cs.length ≤ l.length → (setL l off cs).length = l.length ∧
    ∀ j, (setL l off cs)[j]? = if off ≤ j ∧ j < off + cs.length then cs[j - off]? else l[j]? := by
  induction cs with
  | nil => intro l off h; exact ⟨rfl, fun j => by simp only [setL, List.length_nil]; rw [if_neg (by omega)]⟩
  | cons x cs ih =>
    intro l off h
    simp only [List.length_cons] at h
    obtain ⟨h1, h2⟩ := ih (l.set off x) (off + 1) (by simp; omega)
    refine ⟨by simp only [setL]; rw [h1]; simp, fun j => ?_⟩
    simp only [setL]
    rw [h2 j]
    simp only [List.length_cons]
    by_cases hj : off + 1 ≤ j ∧ j < off + 1 + cs.length
    · rw [if_pos hj, if_pos (by omega)]
      have : j - off = (j - (off + 1)) + 1 := by omega
      rw [this, List.getElem?_cons_succ]
    · rw [if_neg hj, List.getElem?_set]
      by_cases hjo : off = j
      · subst hjo
        rw [if_pos rfl, if_pos (by omega), if_pos (by omega)]
        simp
      · rw [if_neg hjo, if_neg (by omega)]

theorem CRel.setL {cs : List AV} {vs : Array Value} (h : CRel w c cs vs) {xs : List AV} {X : Array Value} (hx : CRel w c xs X) {off : Nat} (hle : off + xs.length ≤ cs.length) :
    CRel w c (setL cs off xs) (X.zipIdx.foldl (fun (acc : Array Value) (p : Value × Nat) => acc.setIfInBounds (off + p.2) p.1) vs) := by
  have gen : ∀ (l : List Value) (k : Nat) (acc : Array Value), ((l.zipIdx k).foldl (fun (acc : Array Value) (p : Value × Nat) => acc.setIfInBounds (off + p.2) p.1) acc).size = acc.size ∧
      (off + k + l.length ≤ acc.size → ∀ j, ((l.zipIdx k).foldl (fun (acc : Array Value) (p : Value × Nat) => acc.setIfInBounds (off + p.2) p.1) acc)[j]? = if off + k ≤ j ∧ j < off + k + l.length then l[j - (off + k)]? else acc[j]?) := by
    intro l
    induction l with
    | nil => intro k acc; exact ⟨rfl, fun _ j => by simp only [List.zipIdx_nil, List.foldl_nil, List.length_nil]; rw [if_neg (by omega)]⟩
    | cons x l ih =>
      intro k acc
      obtain ⟨h1, h2⟩ := ih (k + 1) (acc.setIfInBounds (off + k) x)
      refine ⟨by simp only [List.zipIdx_cons, List.foldl_cons]; rw [h1]; simp, fun hle j => ?_⟩
      simp only [List.length_cons] at hle
      simp only [List.zipIdx_cons, List.foldl_cons]
      rw [h2 (by simp; omega) j]
      simp only [List.length_cons]
      by_cases hj : off + (k + 1) ≤ j ∧ j < off + (k + 1) + l.length
      · rw [if_pos hj, if_pos (by omega)]
        have : j - (off + k) = (j - (off + (k + 1))) + 1 := by omega
        rw [this, List.getElem?_cons_succ]
      · rw [if_neg hj, Array.getElem?_setIfInBounds]
        by_cases hjo : off + k = j
        · subst hjo
          rw [if_pos rfl, if_pos (by omega), if_pos (by omega)]
          simp
        · rw [if_neg hjo, if_neg (by omega)]
  have e : X.zipIdx.foldl (fun (acc : Array Value) (p : Value × Nat) => acc.setIfInBounds (off + p.2) p.1) vs = (X.toList.zipIdx 0).foldl (fun (acc : Array Value) (p : Value × Nat) => acc.setIfInBounds (off + p.2) p.1) vs := by
    rw [← Array.foldl_toList, Array.toList_zipIdx]
  rw [e]
  obtain ⟨g1, g2⟩ := gen X.toList 0 vs
  have hXl : X.toList.length = xs.length := by rw [Array.length_toList]; exact hx.1.symm
  obtain ⟨s1, s2⟩ := setL_get xs cs off hle
  have hsz := h.1
  have hxs := hx.1
  refine ⟨by rw [s1, g1]; exact h.1, ?_, ?_⟩
  · intro y hy
    obtain ⟨j, hj⟩ := List.mem_iff_getElem?.1 hy
    rw [s2 j] at hj
    split at hj
    · exact hx.2.1 y (List.mem_of_getElem? hj)
    · exact h.2.1 y (List.mem_of_getElem? hj)
  · intro j y hj
    rw [s2 j] at hj
    rw [Array.getD_eq_getD_getElem?, g2 (by omega) j]
    split at hj
    · rename_i hr
      rw [if_pos (by omega)]
      have := hx.2.2 _ y hj
      rw [Array.getD_eq_getD_getElem?] at this
      simpa using this
    · rename_i hr
      rw [if_neg (by omega)]
      have := h.2.2 _ y hj
      rw [Array.getD_eq_getD_getElem?] at this
      exact this

theorem fill_ok (place : Nat → Option (Nat × Nat)) : ∀ (l : List (Nat × AV)) (L : List (Nat × Value)), l.length = L.length → (∀ (j i : Nat) (v : AV), l[j]? = some (i, v) → ∃ x, L[j]? = some (i, x) ∧ VR w c v x) →
    (∀ p ∈ l, ∀ y ∈ p.2.cells, y.isCell = true) → ∀ (cs : List AV) (vs : Array Value) (out : List AV), CRel w c cs vs → fillA place cs l = some out → ∃ V, Instr.fill place vs L = some V ∧ CRel w c out V := by
  intro l
  induction l with
  | nil =>
    intro L hl _ _ cs vs out h ho
    obtain rfl : L = [] := List.eq_nil_of_length_eq_zero (by simpa using hl.symm)
    simp only [fillA, Option.some.injEq] at ho
    subst ho
    exact ⟨vs, rfl, h⟩
  | cons p l ih =>
    intro L hl hL hcl cs vs out h ho
    obtain ⟨i, v⟩ := p
    cases L with
    | nil => simp at hl
    | cons q L =>
      obtain ⟨x, hx, hr⟩ := hL 0 i v rfl
      simp only [List.getElem?_cons_zero, Option.some.injEq] at hx
      subst hx
      simp only [fillA] at ho
      split at ho
      · cases ho
      · rename_i off size hp
        split at ho
        · rename_i hc
          have hrel := hr.cellsRel (hcl _ List.mem_cons_self)
          have hs := hrel.1
          obtain ⟨V, hV, hout⟩ := ih L (by simpa using hl) (fun j i v hj => by simpa using hL (j + 1) i v (by simpa using hj)) (fun p hp => hcl p (List.mem_cons_of_mem _ hp)) _ _ out (h.setL hrel (by omega)) ho
          have hcs := h.1
          refine ⟨V, ?_, hout⟩
          have hnot : (x.cells.size ≠ size || decide (off + x.cells.size > vs.size)) = false := by
            simp only [ne_eq, decide_not, Bool.or_eq_false_iff, Bool.not_eq_false', decide_eq_true_eq, decide_eq_false_iff_not]
            omega
          simp only [Instr.fill, hp]
          rw [hnot]
          simp only [Bool.false_eq_true, if_false]
          exact hV
        · cases ho

theorem avc0_ok (v : Value) : VR w c (avc0 v) v := by
  unfold avc0
  split <;> first | exact .bool _ | exact .int _ _ | exact .nil | exact .nilfn | exact .nilmp | exact .undef _
theorem avc_ok {v : Value} (h : (avc v).cells.all AV.isCell = true) : VR w c (avc v) v := by
  unfold avc at h ⊢
  split
  · rename_i cs
    simp only [AV.cells] at h
    refine .agg _ _ (by simp) (fun x hx => List.all_eq_true.1 h x hx) (fun j x hj => ?_)
    simp only [List.getElem?_map, Option.map_eq_some_iff] at hj
    obtain ⟨y, hy, rfl⟩ := hj
    have : cs[j]? = some y := by simpa using hy
    rw [Array.getD_eq_getD_getElem?, this]
    exact avc0_ok y
  · exact avc0_ok _
theorem izero_inv {t : TypeId} {z : AV} (h : izero P t = some z) : ∃ Z, (∀ w, (zeroValue t).run P w = .ok Z w) ∧ avc Z = z := by
  simp only [izero, Option.map_eq_some_iff] at h
  obtain ⟨Z, hZ, rfl⟩ := h
  obtain ⟨i, hi, hz⟩ := Option.bind_eq_some_iff.1 hZ
  exact ⟨Z, fun w => by simp [zeroValue, typeInfo, hi, hz], rfl⟩

theorem agg_inv' {Z : Value} {z : List AV} (h : avc Z = .agg z) : ∃ cs, Z = .agg cs := by
  unfold avc at h
  split at h
  · exact ⟨_, rfl⟩
  · unfold avc0 at h; split at h <;> cases h

theorem nilCheck_ok {x : Operand} {ρ : Operand → AV} {σ : Operand → Value} (hρ : ∀ x, VR w c (ρ x) (σ x)) (o : Oper) (ho : o.op = .nilCheck x) {a : Addr} (h : σ x = .pointer (some a)) : (execOp σ o).run P w = .ok (.value (σ x)) w := by
  simp only [execOp, ho, h, Sem.run_pure]

theorem places_ok : ∀ (fs : List Field), (∀ f ∈ fs, (isz P f.type).isSome = true) → ∀ w, (fs.mapM fun f => Prod.mk f.offset <$> sizeOf f.type).run P w = .ok (fs.map fun f => (f.offset, (isz P f.type).getD 0)) w := by
  intro fs
  induction fs with
  | nil => intro _ w; simp
  | cons f fs ih =>
    intro h w
    obtain ⟨s, hs⟩ := Option.isSome_iff_exists.1 (h f List.mem_cons_self)
    simp [List.mapM_cons, run_size hs, ih (fun g hg => h g (List.mem_cons_of_mem _ hg)) w, hs]

theorem opPure_ok {o : Oper} {ρ : Operand → AV} {σ : Operand → Value} (hρ : ∀ x, VR w c (ρ x) (σ x)) {v : AV} (h : opPure P o.op ρ = some v) :
    ∃ x, (execOp σ o).run P w = .ok (.value x) w ∧ VR w c v x := by
  revert h
  generalize hop : o.op = op
  intro h
  cases op with
  | move x => simp only [opPure, Option.some.injEq] at h; subst h; exact ⟨_, by simp [execOp, hop], hρ x⟩
  | assign x => simp only [opPure, Option.some.injEq] at h; subst h; exact ⟨_, by simp [execOp, hop], hρ x⟩
  | pick x a b =>
    simp only [opPure] at h
    split at h
    · rename_i t ht
      cases h
      have hx := hρ x
      rw [ht] at hx
      refine ⟨if t then σ a else σ b, ?_, ?_⟩
      · generalize hX : σ x = X at *
        cases hx
        simp [execOp, hop, hX, asBool]
      · cases t
        · exact hρ b
        · exact hρ a
    · cases h
  | binOp op t x y t' =>
    simp only [opPure] at h
    obtain ⟨z, h1, h2, h3⟩ := binA_ok (hρ x) (hρ y) h x y
    exact ⟨z, by simp [execOp, hop, h1, h2], h3⟩
  | unOp op t x =>
    simp only [opPure] at h
    obtain ⟨z, h1, h2⟩ := unA_ok (P := P) (hρ x) h
    exact ⟨z, by simp [execOp, hop, h1], h2⟩
  | convert s d x =>
    simp only [opPure] at h
    split at h
    · rename_i ds k k' n hs hd hx
      cases h
      have hX := hρ x
      rw [hx] at hX
      refine ⟨.int k (k.wrap n), ?_, .int _ _⟩
      generalize hX' : σ x = X at *
      cases hX
      simp only [execOp, hop, hX', convert, Sem.run_bind, run_underlying hs, run_underlying hd, Result.andThen_ok, Conv.intToInt, Sem.run_pure]
    · cases h
  | makeFunc f first caps =>
    cases f with
    | func f =>
      simp only [opPure] at h
      split at h
      · rename_i hf
        cases h
        have : first = #[] := Array.eq_empty_of_size_eq_zero hf
        obtain ⟨h1, h2⟩ := fn_of hρ caps
        exact ⟨_, by simp [execOp, hop, Instr.makeFunc, this], .fn f _ _ h1 h2⟩
      · cases h
    | _ => simp [opPure] at h
  | nilCheck x =>
    simp only [opPure] at h
    have hx := hρ x
    split at h
    · rename_i id off e
      cases h
      rw [e] at hx
      have hx' := hx
      cases hx' with
      | ptr _ _ v hid hp =>
        obtain ⟨a, ha, _⟩ := hp
        exact ⟨σ x, nilCheck_ok hρ o hop ha, hx⟩
    · rename_i cs e
      cases h
      rw [e] at hx
      obtain ⟨a, ha, _⟩ := hx.pp_drop 0
      exact ⟨σ x, nilCheck_ok hρ o hop ha, hx⟩
    · cases h
  | fieldAddr s x f =>
    simp only [opPure] at h
    split at h
    case h_2 => cases h
    case h_1 fs hfs =>
      have hx := hρ x
      have hplace : ∀ (fd : Field) (a : Addr), ¬ (isz P fd.type).getD 0 = 0 → (fieldPlace a fd).run P w = .ok (a.add fd.offset) w := by
        intro fd a hn
        cases hs : isz P fd.type with
        | none => simp [hs] at hn
        | some n =>
          have : n ≠ 0 := by simpa [hs] using hn
          simp [fieldPlace, run_size hs, this]
      split at h
      · rename_i fd id off hfd e
        split at h
        · cases h
        rename_i hn
        cases h
        rw [e] at hx
        generalize hX : σ x = X at *
        cases hx with
        | ptr _ _ _ hid hp =>
          obtain ⟨a, rfl, ha⟩ := hp
          refine ⟨.pointer (some (a.add fd.offset)), ?_, .ptr _ _ _ hid ⟨_, rfl, ?_⟩⟩
          · simp [execOp, hop, Instr.fieldAt, run_underlying hfs, hfd, hX, Instr.sureAddr, hplace fd a hn]
          · intro b row hb
            rw [ha b row hb, add_lit]
      · rename_i fd cs hfd e
        split at h
        · cases h
        rename_i hn
        cases h
        rw [e] at hx
        obtain ⟨a, ha, hr⟩ := hx.pp_drop fd.offset
        refine ⟨.pointer (some (a.add fd.offset)), ?_, hr⟩
        simp [execOp, hop, Instr.fieldAt, run_underlying hfs, hfd, ha, Instr.sureAddr, hplace fd a hn]
      · cases h
  | field t x f =>
    simp only [opPure] at h
    split at h
    case h_2 => cases h
    case h_1 fs hfs =>
      split at h
      · rename_i fd cs hfd e
        have hx := hρ x
        rw [e] at hx
        obtain ⟨vs, hX, hr⟩ := hx.agg_inv
        obtain ⟨y, h1, h2⟩ := hr.part h
        exact ⟨y, by simp [execOp, hop, Instr.field, run_underlying hfs, hfd, hX, asAgg, h1], h2⟩
      · cases h
  | index t x i =>
    simp only [opPure] at h
    split at h
    case h_2 => cases h
    case h_1 n e cs hu hx =>
      obtain ⟨j, hj, h⟩ := Option.bind_eq_some_iff.1 h
      obtain ⟨sz, hs, h⟩ := Option.bind_eq_some_iff.1 h
      obtain ⟨k, q, hi, h1, h2, h3⟩ := idxA_inv hj
      have hX := hρ x
      rw [hx] at hX
      obtain ⟨vs, hX', hr⟩ := hX.agg_inv
      have hI := hρ i
      rw [hi] at hI
      generalize hI' : σ i = I at *
      cases hI
      obtain ⟨y, p1, p2⟩ := hr.part h
      refine ⟨y, ?_, p2⟩
      simp [execOp, hop, Instr.index, run_underlying hu, hX', hI', asIntOf, h1, h2, run_size hs, h3, p1]
  | extract x i =>
    simp only [opPure] at h
    split at h
    · rename_i vs e
      have hx := hρ x
      rw [e] at hx
      generalize hX : σ x = X at *
      cases hx with
      | tup _ xs hl hv =>
        have hlt : i < xs.size := hl ▸ (List.getElem?_eq_some_iff.1 h).1
        have := hv i v h
        refine ⟨xs[i], ?_, by simpa [Array.getD, hlt] using this⟩
        simp [execOp, hop, Instr.extract, hX, hlt]
    · cases h
  | indexAddr t x i =>
    simp only [opPure] at h
    have hx := hρ x
    split at h
    · rename_i e xs hu ex
      obtain ⟨j, hj, h⟩ := Option.bind_eq_some_iff.1 h
      obtain ⟨cs, hcs, h⟩ := Option.bind_eq_some_iff.1 h
      split at h
      · rename_i hsz
        cases h
        obtain ⟨k, q, hi, h1, h2, h3⟩ := idxA_inv hj
        rw [ex] at hx
        obtain ⟨a, cap, hX, hr⟩ := hx.lst_at hcs
        have hI := hρ i
        rw [hi] at hI
        generalize hI' : σ i = I at *
        cases hI
        refine ⟨_, ?_, hr⟩
        simp [execOp, hop, Instr.indexAt, run_underlying hu, hX, hI', asIntOf, h1, h2, run_size hsz, h3]
      · cases h
    · rename_i e id off n sz hu ex
      obtain ⟨j, hj, h⟩ := Option.bind_eq_some_iff.1 h
      split at h
      · rename_i hsz
        cases h
        obtain ⟨k, q, hi, h1, h2, h3⟩ := idxA_inv hj
        rw [ex] at hx
        have hI := hρ i
        rw [hi] at hI
        generalize hI' : σ i = I at *
        cases hI
        generalize hX : σ x = X at *
        cases hx with
        | sl _ _ _ _ _ hid hs =>
          obtain ⟨A, cap, rfl, g1, g2, g3, g4, g5⟩ := hs
          cases A with
          | none => have := g3 rfl; omega
          | some a =>
            refine ⟨.pointer (some (a.add (j * sz))), ?_, .ptr _ _ _ hid ⟨_, rfl, ?_⟩⟩
            · simp [execOp, hop, Instr.indexAt, run_underlying hu, hX, hI', asIntOf, h1, h2, run_size hsz, h3]
            · intro b row hb
              have := (g5 b row hb (.inl (by omega))).1
              cases this
              rw [add_lit]
      · cases h
    · rename_i n e id off hu ex
      obtain ⟨j, hj, h⟩ := Option.bind_eq_some_iff.1 h
      obtain ⟨sz, hsz, rfl⟩ := Option.map_eq_some_iff.1 h
      obtain ⟨k, q, hi, h1, h2, h3⟩ := idxA_inv hj
      rw [ex] at hx
      have hI := hρ i
      rw [hi] at hI
      generalize hI' : σ i = I at *
      cases hI
      generalize hX : σ x = X at *
      cases hx with
      | ptr _ _ _ hid hp =>
        obtain ⟨a, rfl, ha⟩ := hp
        refine ⟨.pointer (some (a.add (j * sz))), ?_, .ptr _ _ _ hid ⟨_, rfl, ?_⟩⟩
        · simp [execOp, hop, Instr.indexAt, run_underlying hu, hX, hI', asIntOf, h1, h2, run_size hsz, h3, Instr.sureAddr]
        · intro b row hb
          rw [ha b row hb, add_lit]
    · rename_i n e cs hu ex
      obtain ⟨j, hj, h⟩ := Option.bind_eq_some_iff.1 h
      obtain ⟨sz, hsz, rfl⟩ := Option.map_eq_some_iff.1 h
      obtain ⟨k, q, hi, h1, h2, h3⟩ := idxA_inv hj
      rw [ex] at hx
      have hI := hρ i
      rw [hi] at hI
      generalize hI' : σ i = I at *
      cases hI
      obtain ⟨a, ha, hr⟩ := hx.pp_drop (j * sz)
      refine ⟨_, ?_, hr⟩
      simp [execOp, hop, Instr.indexAt, run_underlying hu, ha, hI', asIntOf, h1, h2, run_size hsz, h3, Instr.sureAddr]
    · cases h
  | slice t x lo hi mx =>
    cases mx with
    | some m => simp [opPure] at h
    | none =>
    simp only [opPure] at h
    have hx := hρ x
    split at h
    · rename_i e xs hu ex
      obtain ⟨b, hb, h⟩ := Option.bind_eq_some_iff.1 h
      obtain ⟨a, ha, h⟩ := Option.bind_eq_some_iff.1 h
      split at h
      · rename_i sz hsz
        split at h
        · rename_i hall
          cases h
          rw [ex] at hx
          obtain ⟨A, cap, hX, g1, g2, g3⟩ := hx.lst_len
          obtain ⟨b1, b2, b3⟩ := bounds_ok (P := P) hρ hb ha true cap g1
          rw [hX] at hx
          refine ⟨_, ?_, hx.lst_slice b2 b1 (fun y hy => by simpa using List.all_eq_true.1 hall y hy)⟩
          simp [execOp, hop, Instr.sliceAt, Instr.slice, run_underlying hu, hX, b3, run_size hsz]
        · cases h
      · cases h
    · rename_i e id off n sz hu ex
      obtain ⟨b, hb, h⟩ := Option.bind_eq_some_iff.1 h
      obtain ⟨a, ha, h⟩ := Option.bind_eq_some_iff.1 h
      split at h
      · rename_i hsz
        obtain ⟨hsz, hszp⟩ := hsz
        cases h
        rw [ex] at hx
        generalize hX : σ x = X at *
        cases hx with
        | sl _ _ _ _ _ hid hs =>
          obtain ⟨A, cap, rfl, g1, g2, g3, g4, g5⟩ := hs
          obtain ⟨b1, b2, b3⟩ := bounds_ok (P := P) hρ hb ha true cap g1
          refine ⟨.slice (if cap = a then A else A.map (·.add (a * sz))) (b - a) (cap - a), ?_, .sl _ _ _ _ _ hid ⟨_, _, rfl, by omega, by omega, ?_, ?_, ?_⟩⟩
          · simp [execOp, hop, Instr.sliceAt, Instr.slice, run_underlying hu, hX, b3, run_size hsz]
          · intro hn
            split at hn
            · omega
            · cases A with
              | none => have := g3 rfl; omega
              | some A => simp at hn
          · intro hn
            obtain ⟨rfl, rfl⟩ := g4 hn
            refine ⟨by split <;> rfl, by omega⟩
          · intro bb row hbb hc
            have hc' : ¬ (cap = a) ∨ (cap = 0 ∧ a = 0 ∧ row = true ∧ off = 0) := by
              rcases hc with hc | ⟨hr, ho⟩
              · left; omega
              · by_cases hca : cap = a
                · right
                  have h2 : a * sz = 0 := by omega
                  have h1 : a = 0 := by
                    rcases Nat.mul_eq_zero.1 h2 with h | h
                    · exact h
                    · omega
                  exact ⟨by omega, h1, hr, by omega⟩
                · exact .inl hca
            obtain ⟨q1, q2, q3⟩ := g5 bb row hbb (by
              rcases hc' with h | ⟨_, _, h1, h2⟩
              · by_cases hz : 0 < cap
                · exact .inl hz
                · rcases hc with hc | ⟨hr, ho⟩
                  · left; omega
                  · exact .inr ⟨hr, by omega⟩
              · exact .inr ⟨h1, h2⟩)
            have hmul : off + a * sz + (cap - a) * sz = off + cap * sz := by
              rw [Nat.add_assoc, ← Nat.add_mul]
              have : a + (cap - a) = cap := by omega
              rw [this]
            rw [q1, hmul]
            refine ⟨?_, q2, q3⟩
            split
            · rcases hc' with h | ⟨_, h1, _⟩
              · exact absurd (by assumption) h
              · simp [h1]
            · simp [add_lit]
      · cases h
    · cases h
  | build t parts =>
    simp only [opPure] at h
    split at h
    case h_2 => cases h
    case h_1 z hz =>
    split at h
    case isFalse => cases h
    case isTrue hcells =>
    obtain ⟨Z, hZ, hzz⟩ := izero_inv hz
    obtain ⟨zs, rfl⟩ := agg_inv' hzz
    have hzr : VR w c (avc (.agg zs)) (.agg zs) := avc_ok (by rw [hzz]; exact hcells.1)
    rw [hzz] at hzr
    obtain ⟨zs', hzs, hzrel⟩ := hzr.agg_inv
    cases hzs
    have hl : ∀ (j i : Nat) (v : AV), (parts.toList.map fun p => (p.1, ρ p.2))[j]? = some (i, v) → ∃ x, (parts.map fun p => (p.1, σ p.2)).toList[j]? = some (i, x) ∧ VR w c v x := by
      intro j i v hj
      simp only [List.getElem?_map, Option.map_eq_some_iff] at hj
      obtain ⟨p, hp, hj⟩ := hj
      cases hj
      refine ⟨σ p.2, ?_, hρ p.2⟩
      simp only [Array.toList_map, List.getElem?_map, hp, Option.map_some]
    have hcl : ∀ p ∈ (parts.toList.map fun p => (p.1, ρ p.2)), ∀ y ∈ p.2.cells, y.isCell = true := by
      intro p hp y hy
      obtain ⟨q, hq, rfl⟩ := List.mem_map.1 hp
      have := List.all_eq_true.1 hcells.2 q hq
      exact List.all_eq_true.1 this y hy
    split at h
    · rename_i fs hfs
      split at h
      case isFalse => cases h
      case isTrue hall =>
      obtain ⟨out, ho, rfl⟩ := Option.map_eq_some_iff.1 h
      obtain ⟨V, hV, hr⟩ := fill_ok _ _ (parts.map fun p => (p.1, σ p.2)).toList (by simp) hl hcl _ _ _ hzrel ho
      refine ⟨.agg V, ?_, hr.agg⟩
      have hp := places_ok (P := P) fs.toList (fun f hf => Array.all_eq_true'.1 hall f (Array.mem_toList_iff.1 hf))
      obtain ⟨V', hV'⟩ : ∃ V', Instr.fill (fun i => ((fs.toList.map fun f => (f.offset, (isz P f.type).getD 0)).toArray)[i]?) zs (parts.map fun p => (p.1, σ p.2)).toList = some V' ∧ V' = V := by
        refine ⟨V, ?_, rfl⟩
        rw [← hV]
        congr 1
        funext i
        simp only [List.getElem?_toArray, List.getElem?_map, Array.getElem?_toList]
        cases hf : fs[i]? with
        | none => rfl
        | some f =>
          have hs : (isz P f.type).isSome = true := by
            have := Array.all_eq_true'.1 hall f (Array.mem_of_getElem? hf)
            exact this
          obtain ⟨s, hs⟩ := Option.isSome_iff_exists.1 hs
          simp [hs]
      obtain ⟨hV', rfl⟩ := hV'
      simp only [execOp, hop, Instr.build, Sem.run_bind, hZ, Result.andThen_ok, run_underlying hfs, Array.mapM_eq_mapM_toList, Sem.run_map, bind_pure_comp, hp w, Value.cells]
      simp only [hV']
      simp
    · rename_i n e hu
      split at h
      · rename_i s hs
        obtain ⟨out, ho, rfl⟩ := Option.map_eq_some_iff.1 h
        obtain ⟨V, hV, hr⟩ := fill_ok _ _ (parts.map fun p => (p.1, σ p.2)).toList (by simp) hl hcl _ _ _ hzrel ho
        refine ⟨.agg V, ?_, hr.agg⟩
        simp only [execOp, hop, Instr.build, Sem.run_bind, hZ, Result.andThen_ok, run_underlying hu, run_size hs, Value.cells]
        simp only [hV]
        simp
      · cases h
    · cases h
  | call cl =>
    obtain ⟨callee, args, argTypes⟩ := cl
    cases callee with
    | value f => simp [opPure] at h
    | invoke r m => simp [opPure] at h
    | builtin b =>
      cases b with
      | len =>
        simp only [opPure] at h
        split at h
        · rename_i e x hu hx
          obtain ⟨n, hn, rfl⟩ := Option.map_eq_some_iff.1 h
          obtain ⟨t, ht, hu⟩ := Option.bind_eq_some_iff.1 hu
          have hr := hρ x
          refine ⟨.int .i64 n, ?_, .int _ _⟩
          have hv : ∃ A cap, σ x = .slice A n cap := by
            generalize ρ x = X at *
            cases X with
            | nil => simp only [lenA, Option.some.injEq] at hn; subst hn; exact ⟨_, _, hr.nil_inv⟩
            | lst xs => simp only [lenA, Option.some.injEq] at hn; subst hn; obtain ⟨A, cap, hX, _⟩ := hr.lst_len; exact ⟨A, cap, hX⟩
            | sl id off m sz =>
              simp only [lenA, Option.some.injEq] at hn
              subst hn
              obtain ⟨_, A, cap, e, _⟩ := hr.sl_inv
              exact ⟨A, cap, e⟩
            | _ => simp [lenA] at hn
          obtain ⟨A, cap, hv⟩ := hv
          simp [execOp, hop, resolve, invoke, builtin, Builtin.len_, ht, hx, hv, run_underlying hu, goInt]
        · rename_i n e x hu hx
          cases h
          obtain ⟨t, ht, hu⟩ := Option.bind_eq_some_iff.1 hu
          refine ⟨.int .i64 n, ?_, .int _ _⟩
          simp [execOp, hop, resolve, invoke, builtin, Builtin.len_, ht, hx, run_underlying hu, goInt]
        · cases h
      | min =>
        simp only [opPure] at h
        generalize hl : args.toList = l at h
        cases l with
        | nil => simp [minA] at h
        | cons x l =>
          simp only [List.map_cons, minA] at h
          obtain ⟨z, h1, h2⟩ := minA_ok (P := P) ρ σ hρ l _ _ _ (hρ x) h
          refine ⟨z, ?_, h2⟩
          have hm : (args.map σ).toList = σ x :: l.map σ := by simp [hl]
          simp only [execOp, hop, resolve, invoke, builtin, Builtin.min_, Sem.run_bind, Sem.run_pure, Result.andThen_ok, hm, h1]
      | max =>
        simp only [opPure] at h
        generalize hl : args.toList = l at h
        cases l with
        | nil => simp [maxA] at h
        | cons x l =>
          simp only [List.map_cons, maxA] at h
          obtain ⟨z, h1, h2⟩ := maxA_ok (P := P) ρ σ hρ l _ _ _ (hρ x) h
          refine ⟨z, ?_, h2⟩
          have hm : (args.map σ).toList = σ x :: l.map σ := by simp [hl]
          simp only [execOp, hop, resolve, invoke, builtin, Builtin.max_, Sem.run_bind, Sem.run_pure, Result.andThen_ok, hm, h1]
      | _ => simp [opPure] at h
  | _ => simp [opPure] at h

end Go.Am

