/-
  What the second machine says of an operation that makes nothing and writes nothing, the model says.
-/
import Derived.Test.YtcdpkgmkckfonaaAmRel
import Derived.Laws.StructEq
set_option linter.unusedVariables false
set_option linter.unusedSimpArgs false
namespace Go.Am
open Go Go.RowKit

variable {P : Program} {w : World} {c : Ctx}

theorem isz_info {t : TypeId} {n : Nat} (h : isz P t = some n) : ∃ i, P.info? t = some i ∧ i.size = n := by
  simp only [isz, Option.map_eq_some_iff] at h; exact h
theorem run_size {t : TypeId} {n : Nat} (h : isz P t = some n) (w : World) : (sizeOf t).run P w = .ok n w := by
  obtain ⟨i, hi, rfl⟩ := isz_info h
  simp [sizeOf, typeInfo, hi]
theorem run_isAgg {t : TypeId} {d : TypeDesc} (h : P.underlying t = some d) (w : World) : (isAgg t).run P w = .ok (aggD d) w := by
  simp only [isAgg, Sem.run_bind, run_underlying h, Result.andThen_ok]
  cases d <;> rfl

def CRel (w : World) (c : Ctx) (cs : List AV) (vs : Array Value) : Prop :=
  cs.length = vs.size ∧ (∀ x ∈ cs, x.isCell = true) ∧ ∀ j x, cs[j]? = some x → VR w c x (vs.getD j Go.undef)

theorem VR.oneCell {v : AV} {x : Value} (h : VR w c v x) (hc : v.isCell = true) : x.oneCell' = true := by
  cases h with
  | undef v => simp [AV.isCell] at hc
  | skp => simp [AV.isCell] at hc
  | sl id off n sz v hid h => obtain ⟨A, cap, rfl, _⟩ := h; rfl
  | ptr id off v hid h => obtain ⟨a, rfl, _⟩ := h; rfl
  | mp id v hid h => obtain ⟨a, rfl, _⟩ := h; rfl
  | agg => simp [AV.isCell] at hc
  | tup => simp [AV.isCell] at hc
  | _ => rfl

theorem cells_one {x : Value} (h : x.oneCell' = true) : x.cells = #[x] := by cases x <;> first | rfl | simp [Value.oneCell'] at h

theorem VR.agg_inv {cs : List AV} {x : Value} (h : VR w c (.agg cs) x) : ∃ vs, x = .agg vs ∧ CRel w c cs vs := by
  cases h with
  | agg _ vs hl hcell hv => exact ⟨vs, rfl, hl, hcell, hv⟩
theorem CRel.agg {cs : List AV} {vs : Array Value} (h : CRel w c cs vs) : VR w c (.agg cs) (.agg vs) := .agg cs vs h.1 h.2.1 h.2.2

/-- The cells of a value. -/
theorem VR.cellsRel {v : AV} {x : Value} (h : VR w c v x) (hc : ∀ y ∈ v.cells, y.isCell = true) : CRel w c v.cells x.cells := by
  by_cases hv : ∃ cs, v = .agg cs
  · obtain ⟨cs, rfl⟩ := hv
    obtain ⟨vs, rfl, hr⟩ := h.agg_inv
    exact hr
  · have e : v.cells = [v] := by cases v <;> first | rfl | exact absurd ⟨_, rfl⟩ hv
    rw [e] at hc ⊢
    have hcell := hc v (by simp)
    rw [cells_one (h.oneCell hcell)]
    refine ⟨rfl, hc, fun j y hj => ?_⟩
    cases j with
    | zero => simp at hj; subst hj; exact h
    | succ j => simp at hj

theorem CRel.get {cs : List AV} {vs : Array Value} (h : CRel w c cs vs) {j : Nat} {x : AV} (hj : cs[j]? = some x) : ∃ v, vs[j]? = some v ∧ VR w c x v ∧ x.isCell = true := by
  have hlt : j < cs.length := (List.getElem?_eq_some_iff.1 hj).1
  have hlt' : j < vs.size := h.1 ▸ hlt
  have := h.2.2 j x hj
  refine ⟨vs[j], by simp [hlt'], ?_, h.2.1 x (List.mem_of_getElem? hj)⟩
  simpa [Array.getD, hlt'] using this

theorem CRel.part {cs : List AV} {vs : Array Value} (h : CRel w c cs vs) {t : TypeId} {off : Nat} {v : AV} (hp : partA P t cs off = some v) : ∃ x, (part t vs off).run P w = .ok x w ∧ VR w c v x := by
  unfold partA at hp
  split at hp
  case h_2 => cases hp
  case h_1 d n hd hn =>
    by_cases ha : aggD d = true
    · rw [if_pos ha] at hp
      split at hp
      case isFalse => cases hp
      case isTrue hle =>
        cases hp
        refine ⟨.agg (vs.extract off (off + n)), by simp [Go.part, run_isAgg hd, ha, run_size hn], ?_⟩
        refine CRel.agg ⟨by simp [← h.1]; omega, fun x hx => h.2.1 x (List.mem_of_mem_drop (List.mem_of_mem_take hx)), ?_⟩
        intro j x hj
        rw [List.getElem?_take] at hj
        split at hj
        case isFalse => cases hj
        case isTrue hjn =>
          rw [List.getElem?_drop] at hj
          have h1 := h.2.2 _ x hj
          have h2 : off + j < vs.size := by rw [← h.1]; exact (List.getElem?_eq_some_iff.1 hj).1
          have h3 : j < (vs.extract off (off + n)).size := by simp; omega
          simp only [Array.getD, h2, dite_true, Array.getInternal_eq_getElem] at h1
          simp only [Array.getD, h3, dite_true, Array.getInternal_eq_getElem, Array.getElem_extract]
          exact h1
    · have ha' : aggD d = false := by simpa using ha
      rw [ha', if_neg (by simp)] at hp
      obtain ⟨x, hx, hr, _⟩ := h.get hp
      exact ⟨x, by simp [Go.part, run_isAgg hd, ha', hx], hr⟩

/-! ### Numbers -/
def vnum : AV → Value
  | .int k n => .int k n
  | .bool b => .bool b
  | _ => Go.undef
theorem binI_ok {op : BinOp} {k j : IntKind} {a b : Int} {t : TypeId} {v : AV} (hk : isShift op = true ∨ k = j) (h : binI op k a b = some v) :
    ∃ x, (binOp op t (.int k a) (.int j b)).run P w = .ok x w ∧ VR w c v x := by
  refine ⟨vnum v, ?_⟩
  cases op
  case shl =>
    simp only [binI] at h
    split at h
    · cases h
    · rename_i hb
      cases h
      exact ⟨by simp [binOp, Op.shift, hb, vnum], .int _ _⟩
  case shr =>
    simp only [binI] at h
    split at h
    · cases h
    · rename_i hb
      cases h
      exact ⟨by simp [binOp, Op.shift, hb, vnum], .int _ _⟩
  case quo =>
    simp only [binI] at h
    split at h
    · cases h
    · rename_i hb
      cases h
      obtain rfl : k = j := by rcases hk with hk | hk; (· simp [isShift] at hk); exact hk
      exact ⟨by simp [binOp, Op.intDiv, hb, vnum], .int _ _⟩
  case rem =>
    simp only [binI] at h
    split at h
    · cases h
    · rename_i hb
      cases h
      obtain rfl : k = j := by rcases hk with hk | hk; (· simp [isShift] at hk); exact hk
      exact ⟨by simp [binOp, Op.intDiv, hb, vnum], .int _ _⟩
  all_goals
    obtain rfl : k = j := by rcases hk with hk | hk; (· simp [isShift] at hk); exact hk
    simp only [binI, Option.some.injEq] at h
    subst h
    first
    | exact ⟨by simp [binOp, Op.intArith, Op.intBits, Op.intCmp, vnum], .int _ _⟩
    | exact ⟨by simp [binOp, Op.intArith, Op.intBits, Op.intCmp, vnum], .bool _⟩

theorem CRel.cell {xs : List AV} {X : Array Value} (h : CRel w c xs X) {i : Nat} {k : IntKind} {a : Int} (hx : xs[i]? = some (.int k a)) : X[i]? = some (.int k a) := by
  obtain ⟨v, hv, hr, _⟩ := h.get hx
  cases hr
  exact hv

theorem eqCell_inv {x y : Option AV} {b : Bool} (h : eqCell x y = some b) : ∃ k a j, x = some (.int k a) ∧ y = some (.int k j) ∧ b = (a == j) := by
  unfold eqCell at h
  split at h
  · rename_i k a j b'
    split at h
    · rename_i e
      subst e
      cases h
      exact ⟨_, _, _, rfl, rfl, rfl⟩
    · cases h
  · cases h

theorem part_cell {t : TypeId} {k : IntKind} (ht : P.underlying t = some (.int k)) {X : Array Value} {i : Nat} {v : Value} (h : X[i]? = some v) : (part t X i).run P w = .ok v w := by
  simp [Go.part, run_isAgg ht, aggD, h]

theorem eqFields_ok {xs ys : List AV} {X Y : Array Value} (hx : CRel w c xs X) (hy : CRel w c ys Y) (d : Nat) : ∀ (fs : List Field) (b : Bool), eqFlds P xs ys fs = some b → (Op.eqFields (d + 1) X Y fs).run P w = .ok b w := by
  intro fs
  induction fs with
  | nil => intro b h; simp [eqFlds] at h; subst h; simp [Op.eqFields]
  | cons f fs ih =>
    intro b h
    simp only [eqFlds] at h
    split at h
    case h_2 => cases h
    case h_1 k hk =>
      split at h
      · cases h
      · rename_i hn
        obtain ⟨r, hr, h⟩ := Option.bind_eq_some_iff.1 h
        obtain ⟨s, hs, rfl⟩ := Option.map_eq_some_iff.1 h
        obtain ⟨k', a, j, e1, e2, rfl⟩ := eqCell_inv hr
        have p1 := part_cell (w := w) hk (hx.cell e1)
        have p2 := part_cell (w := w) hk (hy.cell e2)
        simp only [Op.eqFields, hn, ne_eq, not_false_eq_true, if_true, Sem.run_bind, p1, p2, Result.andThen_ok, run_equalIn_int w d f.type k' k a j hk]
        by_cases haj : (a == j) = true
        · simp [haj, ih s hs]
        · have haj' : (a == j) = false := by simpa using haj
          simp [haj']

theorem eqArr_ok {xs ys : List AV} {X Y : Array Value} (hx : CRel w c xs X) (hy : CRel w c ys Y) {e : TypeId} {k : IntKind} (he : P.underlying e = some (.int k)) (D d : Nat) (hD : D = d + 1) (G : Nat → Option Bool × Unit → Sem (ForInStep (Option Bool × Unit)))
    (hG : G = fun i _ => do
        let a ← part e X (i * 1)
        let bb ← part e Y (i * 1)
        let r ← Op.equalIn D e a bb
        if (!r) = true then pure (ForInStep.done (some false, ())) else pure (ForInStep.yield (none, ()))) :
    ∀ (n i : Nat) (b : Bool), eqArr xs ys n i = some b →
      (forIn (m := Sem) (List.range' i n) ((none, ()) : Option Bool × Unit) G).run P w = .ok (if b then (none, ()) else (some false, ())) w := by
  subst hD
  intro n
  induction n with
  | zero => intro i b h; simp [eqArr] at h; subst h; simp
  | succ n ih =>
    intro i b h
    simp only [eqArr] at h
    obtain ⟨r, hr, h⟩ := Option.bind_eq_some_iff.1 h
    obtain ⟨s, hs, rfl⟩ := Option.map_eq_some_iff.1 h
    obtain ⟨k', a, j, e1, e2, rfl⟩ := eqCell_inv hr
    have p1 := part_cell (w := w) he (hx.cell e1)
    have p2 := part_cell (w := w) he (hy.cell e2)
    rw [List.range'_succ, List.forIn_cons]
    have hg : (G i (none, ())).run P w = if (a == j) = true then .ok (ForInStep.yield (none, ())) w else .ok (ForInStep.done (some false, ())) w := by
      subst hG
      simp only [Sem.run_bind, Nat.mul_one, p1, p2, Result.andThen_ok, run_equalIn_int w d e k' k a j he]
      by_cases haj : (a == j) = true
      · simp [haj]
      · have haj' : (a == j) = false := by simpa using haj
        simp [haj']
    rw [Sem.run_bind, hg]
    by_cases haj : (a == j) = true
    · simp only [haj, if_true, Result.andThen_ok, Bool.true_and]
      exact ih (i + 1) s hs
    · have haj' : (a == j) = false := by simpa using haj
      simp [haj']

theorem equalIn_arr {t e : TypeId} {n : Nat} {k : IntKind} {xs ys : List AV} {X Y : Array Value} (hx : CRel w c xs X) (hy : CRel w c ys Y) (hu : P.underlying t = some (.array n e)) (he : P.underlying e = some (.int k)) (h1 : isz P e = some 1)
    {b : Bool} (h : eqArr xs ys n 0 = some b) (D d : Nat) (hD : D = d + 1) : (Op.equalIn (D + 1) t (.agg X) (.agg Y)).run P w = .ok b w := by
  simp only [Op.equalIn, Sem.run_bind, run_underlying hu, Result.andThen_ok, run_size h1]
  simp only [Std.Legacy.Range.forIn_eq_forIn_range']
  have hs : ([:n] : Std.Legacy.Range).size = n := by simp [Std.Legacy.Range.size]
  rw [hs]
  rw [eqArr_ok (w := w) hx hy he D d hD _ ?_ n 0 b h]
  · cases b <;> rfl
  · rfl

theorem eqAgg_ok {t : TypeId} {xs ys : List AV} {X Y : Array Value} (hx : CRel w c xs X) (hy : CRel w c ys Y) {b : Bool} (h : eqAgg P t xs ys = some b) :
    P.eqGuardType P.depth t = false ∧ (Op.equalIn 10000 t (.agg X) (.agg Y)).run P w = .ok b w := by
  unfold eqAgg at h
  split at h
  · cases h
  rename_i hg
  refine ⟨by simpa using hg, ?_⟩
  split at h
  · rename_i n e hu
    split at h
    case h_2 => cases h
    case h_1 k he h1 =>
      exact equalIn_arr hx hy hu he h1 h 9999 9998 rfl
  · rename_i fs hu
    split at h
    · cases h
    rename_i hp
    have hf : P.underlying t = some (.struct (P.fieldsOf t)) := by simp [Program.fieldsOf, hu]
    rw [run_equalIn_struct w 9999 t X Y hf (by simpa using hp)]
    have : P.fieldsOf t = fs := by simp [Program.fieldsOf, hu]
    rw [this]
    exact eqFields_ok hx hy 9998 _ _ h
  · cases h

theorem eqA_ok {t : TypeId} {x y : AV} {X Y : Value} (hx : VR w c x X) (hy : VR w c y Y) {b : Bool} (h : eqA P t x y = some b) (op : BinOp) {e : Bool} (he : isEq op = some e) (a1 a2 : Operand) :
    (eqGuard op t a1 a2 X Y).run P w = .ok () w ∧ (binOp op t X Y).run P w = .ok (.bool (b == e)) w := by
  have key : (X.oneCell' = true ∧ Y.oneCell' = true ∧ X ≠ .nilIface ∧ (∀ k n, X ≠ .int k n) ∧ (∀ k n, X ≠ .float k n) ∧ (∀ k n m, X ≠ .complex k n m) ∧ (∀ s, X ≠ .string s) ∧ (∀ s, X ≠ .pointer s) ∧ (∀ s, Y ≠ .pointer s) ∨ ∃ xs ys, X = .agg xs ∧ Y = .agg ys ∧ P.eqGuardType P.depth t = false) ∧ (Op.equalIn 10000 t X Y).run P w = .ok b w := by
    unfold eqA at h
    split at h
    · rename_i p q hu
      cases hx; cases hy; cases h
      refine ⟨.inl (by simp [Value.oneCell']), ?_⟩
      exact run_equalIn_bool w 9999 t p q hu
    · rename_i s hu
      cases hx; cases hy; cases h
      refine ⟨.inl (by simp [Value.oneCell']), ?_⟩
      exact (show ∀ d, (Op.equalIn (d + 1) t (.slice none 0 0) (.slice none 0 0)).run P w = .ok true w from fun d => by simp [Op.equalIn, run_underlying hu]) 9999
    · rename_i s p q hu
      cases h
      cases hy
      cases hx with
      | lst xs a cap sz cv =>
        refine ⟨.inl (by simp [Value.oneCell']), ?_⟩
        exact (show ∀ d, (Op.equalIn (d + 1) t (.slice (some a) (p :: q).length cap) (.slice none 0 0)).run P w = .ok false w from fun d => by simp [Op.equalIn, run_underlying hu]) 9999
    · rename_i s id off n sz hu
      cases h
      cases hy
      cases hx with
      | sl _ _ _ _ _ hid hs =>
        obtain ⟨A, cap, rfl, g1, g2, g3, g4, g5⟩ := hs
        cases A with
        | none => have := g3 rfl; omega
        | some a =>
          refine ⟨.inl (by simp [Value.oneCell']), ?_⟩
          exact (show ∀ d, (Op.equalIn (d + 1) t (.slice (some a) (n + 1) cap) (.slice none 0 0)).run P w = .ok false w from fun d => by simp [Op.equalIn, run_underlying hu]) 9999
    · rename_i xs ys
      obtain ⟨X', rfl, hX⟩ := hx.agg_inv
      obtain ⟨Y', rfl, hY⟩ := hy.agg_inv
      obtain ⟨h1, h2⟩ := eqAgg_ok hX hY h
      exact ⟨.inr ⟨_, _, rfl, rfl, h1⟩, h2⟩
    · cases h
  obtain ⟨hk, hr⟩ := key
  have hb : ∀ op, isEq op = some e → (binOp op t X Y).run P w = .ok (.bool (b == e)) w := by
    intro op he
    have gen : (op = .eql ∧ e = true) ∨ (op = .neq ∧ e = false) := by cases op <;> simp [isEq] at he <;> simp [he]
    rcases hk with ⟨h1, h2, h3, h4, h5, h6, h7, h8, h9⟩ | ⟨xs, ys, rfl, rfl, _⟩
    · rcases gen with ⟨rfl, rfl⟩ | ⟨rfl, rfl⟩
      · have : (binOp .eql t X Y) = (do pure (.bool (← Op.equal t X Y))) := by
          cases X <;> cases Y <;> first | rfl | simp at h3 h4 h5 h6 h7 h8 h9
        rw [this]
        simp only [Op.equal, Op.maxDepth, Sem.run_bind, hr, Result.andThen_ok, Sem.run_pure]
        cases b <;> rfl
      · have : (binOp .neq t X Y) = (do pure (.bool (!(← Op.equal t X Y)))) := by
          cases X <;> cases Y <;> first | rfl | simp at h3 h4 h5 h6 h7 h8 h9
        rw [this]
        simp only [Op.equal, Op.maxDepth, Sem.run_bind, hr, Result.andThen_ok, Sem.run_pure]
        cases b <;> rfl
    · rcases gen with ⟨rfl, rfl⟩ | ⟨rfl, rfl⟩
      · rw [run_eql_struct, hr]; cases b <;> rfl
      · rw [run_neq_struct, hr]; cases b <;> rfl
  refine ⟨?_, hb op he⟩
  rcases hk with ⟨h1, h2, h3, _⟩ | ⟨xs, ys, rfl, rfl, hg⟩
  · have : eqGuard op t a1 a2 X Y = pure () := by
      cases op <;> cases X <;> first | rfl | exact absurd rfl h3 | simp [Value.oneCell'] at h1
    rw [this]; rfl
  · exact run_eqGuard_agg w op t a1 a2 xs ys hg

theorem binA_ok {op : BinOp} {t : TypeId} {x y v : AV} {X Y : Value} (hx : VR w c x X) (hy : VR w c y Y) (h : binA P op t x y = some v) (a1 a2 : Operand) :
    ∃ z, (eqGuard op t a1 a2 X Y).run P w = .ok () w ∧ (binOp op t X Y).run P w = .ok z w ∧ VR w c v z := by
  unfold binA at h
  split at h
  · rename_i k a j b
    cases hx; cases hy
    have hg : (eqGuard op t a1 a2 (.int k a) (.int j b)).run P w = .ok () w := by
      unfold eqGuard
      split <;> rfl
    by_cases hs : isShift op = true
    · rw [if_pos hs] at h
      obtain ⟨z, h1, h2⟩ := binI_ok (w := w) (c := c) (P := P) (t := t) (j := j) (.inl hs) h
      exact ⟨z, hg, h1, h2⟩
    · rw [if_neg hs] at h
      split at h
      · rename_i e
        obtain ⟨z, h1, h2⟩ := binI_ok (w := w) (c := c) (P := P) (t := t) (j := j) (.inr e) h
        exact ⟨z, hg, h1, h2⟩
      · cases h
  · obtain ⟨e, he, h⟩ := Option.bind_eq_some_iff.1 h
    obtain ⟨r, hr, rfl⟩ := Option.map_eq_some_iff.1 h
    obtain ⟨h1, h2⟩ := eqA_ok hx hy hr op he a1 a2
    exact ⟨_, h1, h2, .bool _⟩

theorem unA_ok {op : UnOp} {x v : AV} {X : Value} (hx : VR w c x X) (h : unA op x = some v) : ∃ z, (Op.unary op X).run P w = .ok z w ∧ VR w c v z := by
  unfold unA at h
  split at h
  · cases hx; cases h; exact ⟨.int _ _, by simp [Op.unary, Op.intArith], .int _ _⟩
  · cases hx
    simp only [binI, Option.some.injEq] at h
    subst h
    exact ⟨.int _ _, by simp [Op.unary, Op.intBits], .int _ _⟩
  · cases hx; cases h; exact ⟨.bool _, by simp [Op.unary], .bool _⟩
  · cases h

theorem minA_ok (ρ : Operand → AV) (σ : Operand → Value) (hρ : ∀ x, VR w c (ρ x) (σ x)) : ∀ (l : List Operand) (x v : AV) (X : Value), VR w c x X → 
    (l.map ρ).foldlM (fun a b => match a, b with | .int k m, .int _ n => some (.int k (if n < m then n else m)) | _, _ => none) x = some v →
    ∃ z, ((l.map σ).foldlM Builtin.min2 X).run P w = .ok z w ∧ VR w c v z := by
  intro l
  induction l with
  | nil => intro x v X hx h; simp at h; subst h; exact ⟨X, by simp, hx⟩
  | cons o l ih =>
    intro x v X hx h
    simp only [List.map_cons, List.foldlM_cons, Option.bind_eq_bind] at h
    obtain ⟨m, hm, h⟩ := Option.bind_eq_some_iff.1 h
    have ho := hρ o
    revert hm ho
    generalize ρ o = y
    generalize hY : σ o = Y
    intro hm ho
    split at hm
    · cases hm
      cases hx
      cases ho
      obtain ⟨z, h1, h2⟩ := ih _ v _ (.int _ _) h
      exact ⟨z, by simp only [List.map_cons, List.foldlM_cons, hY, Builtin.min2, Sem.run_bind, Sem.run_pure, Result.andThen_ok]; exact h1, h2⟩
    · cases hm
theorem maxA_ok (ρ : Operand → AV) (σ : Operand → Value) (hρ : ∀ x, VR w c (ρ x) (σ x)) : ∀ (l : List Operand) (x v : AV) (X : Value), VR w c x X → 
    (l.map ρ).foldlM (fun a b => match a, b with | .int k m, .int _ n => some (.int k (if m < n then n else m)) | _, _ => none) x = some v →
    ∃ z, ((l.map σ).foldlM Builtin.max2 X).run P w = .ok z w ∧ VR w c v z := by
  intro l
  induction l with
  | nil => intro x v X hx h; simp at h; subst h; exact ⟨X, by simp, hx⟩
  | cons o l ih =>
    intro x v X hx h
    simp only [List.map_cons, List.foldlM_cons, Option.bind_eq_bind] at h
    obtain ⟨m, hm, h⟩ := Option.bind_eq_some_iff.1 h
    have ho := hρ o
    revert hm ho
    generalize ρ o = y
    generalize hY : σ o = Y
    intro hm ho
    split at hm
    · cases hm
      cases hx
      cases ho
      obtain ⟨z, h1, h2⟩ := ih _ v _ (.int _ _) h
      exact ⟨z, by simp only [List.map_cons, List.foldlM_cons, hY, Builtin.max2, Sem.run_bind, Sem.run_pure, Result.andThen_ok]; exact h1, h2⟩
    · cases hm

theorem fn_of {ρ : Operand → AV} {σ : Operand → Value} (hρ : ∀ x, VR w c (ρ x) (σ x)) (xs : Array Operand) : (xs.toList.map ρ).length = (xs.map σ).size ∧ ∀ j x, (xs.toList.map ρ)[j]? = some x → VR w c x ((xs.map σ).getD j Go.undef) := by
  refine ⟨by simp, fun j x hj => ?_⟩
  simp only [List.getElem?_map, Option.map_eq_some_iff] at hj
  obtain ⟨o, ho, rfl⟩ := hj
  have : (xs.map σ)[j]? = some (σ o) := by simp at ho ⊢; exact ⟨o, ho, rfl⟩
  simp only [Array.getD_eq_getD_getElem?, this, Option.getD_some]
  exact hρ o

theorem idxA_inv {x : AV} {n j : Nat} (h : idxA x n = some j) : ∃ k i, x = .int k i ∧ 0 ≤ i ∧ i < n ∧ i.toNat = j := by
  unfold idxA at h
  split at h
  · split at h
    · cases h; exact ⟨_, _, rfl, by omega, by omega, rfl⟩
    · cases h
  · cases h
theorem boundA_inv {x : AV} {n j : Nat} (h : boundA x n = some j) : ∃ k i, x = .int k i ∧ 0 ≤ i ∧ i ≤ n ∧ i.toNat = j := by
  unfold boundA at h
  split at h
  · split at h
    · cases h; exact ⟨_, _, rfl, by omega, by omega, rfl⟩
    · cases h
  · cases h

theorem bound_ok {ρ : Operand → AV} {σ : Operand → Value} (hρ : ∀ x, VR w c (ρ x) (σ x)) {x : Operand} {n j : Nat} (h : boundA (ρ x) n = some j) {cap : Nat} (hc : n ≤ cap) (code : BoundsCode) :
    j ≤ n ∧ (Instr.sliceBound (σ x) cap code).run P w = .ok j w := by
  obtain ⟨k, i, e, h1, h2, h3⟩ := boundA_inv h
  have hx := hρ x
  rw [e] at hx
  refine ⟨by omega, ?_⟩
  generalize σ x = X at *
  cases hx
  have : 0 ≤ i ∧ i ≤ (cap : Int) := by omega
  simp [Instr.sliceBound, asIntOf, this, h3]

/-- The bounds of a slice expression. -/
theorem bounds_ok {ρ : Operand → AV} {σ : Operand → Value} (hρ : ∀ x, VR w c (ρ x) (σ x)) {lo hi : Option Operand} {n a b : Nat} (hh : hiA ρ hi n = some b) (hl : loA ρ lo b = some a) (isS : Bool) (cap : Nat) (hc : n ≤ cap) :
    a ≤ b ∧ b ≤ n ∧ (Instr.sliceBounds isS n cap (lo.map σ) (hi.map σ) none).run P w = .ok (a, b, cap) w := by
  cases hi with
  | none =>
    simp only [hiA, Option.some.injEq] at hh
    subst hh
    cases lo with
    | none =>
      simp only [loA, Option.some.injEq] at hl
      subst hl
      exact ⟨Nat.zero_le _, Nat.le_refl _, by simp [Instr.sliceBounds]⟩
    | some x =>
      obtain ⟨h1, h2⟩ := bound_ok (P := P) hρ (x := x) hl (Nat.le_refl _) .sliceB
      exact ⟨h1, Nat.le_refl _, by simp [Instr.sliceBounds, h2]⟩
  | some y =>
    obtain ⟨h3, h4⟩ := bound_ok (P := P) hρ (x := y) hh hc (if isS then .sliceAcap else .sliceAlen)
    cases lo with
    | none =>
      simp only [loA, Option.some.injEq] at hl
      subst hl
      exact ⟨Nat.zero_le _, h3, by simp [Instr.sliceBounds, h4]⟩
    | some x =>
      obtain ⟨h1, h2⟩ := bound_ok (P := P) hρ (x := x) hl (Nat.le_refl _) .sliceB
      exact ⟨h1, h3, by simp [Instr.sliceBounds, h4, h2]⟩

end Go.Am

