/-
  An allocation that the real run does early and the text's order late: until then its block is nobody's.
-/
import Derived.Test.YtcdpkgmkckfonaaAmSound
set_option linter.unusedVariables false
set_option linter.unusedSimpArgs false
namespace Go.Am
open Go Go.RowKit

section
variable {dp : Bool} {P : Program} {cfg : Cfg} {w w' : World} {c c' : Ctx} {p : Nat → Prop} {ops : Array Oper}

theorem VR.repv {v : AV} {x : Value} (h : VR w c v x) : VR w { c with pv := p } v x := by
  induction h with
  | undef v => exact .undef v
  | skp => exact .skp
  | bool b => exact .bool b
  | int k n => exact .int k n
  | nil => exact .nil
  | lst0 => exact .lst0
  | lst xs a cap sz cv hcap hfz hu hcell hc hv ih => exact .lst xs a cap sz cv hcap hfz hu hcell hc ih
  | sl id off n sz v hid h => exact .sl id off n sz v hid h
  | pp cs a cv hfz hcell hc hv ih => exact .pp cs a cv hfz hcell hc ih
  | ptr id off v hid h => exact .ptr id off v hid h
  | agg cs vs hl hcell hv ih => exact .agg cs vs hl hcell ih
  | tup cs vs hl hv ih => exact .tup cs vs hl ih
  | fn f cs vs hl hv ih => exact .fn f cs vs hl ih
  | nilfn => exact .nilfn
  | nilmp => exact .nilmp
  | mp id v hid h => exact .mp id v hid h
  | mv ks vs r ents clk hfz hb hl hk hkk hbo hv ih => exact .mv ks vs r ents clk hfz hb hl hk hkk hbo ih
theorem BR.repv {l : Loc} {b : Blk} (h : BR w c l b) : BR w { c with pv := p } l b := by
  cases b with
  | cells fz row flat =>
    cases l with
    | dead => exact h
    | nilv => exact h
    | at_ b r =>
      obtain ⟨h1, h2, h3, cs, e, h4, h5⟩ := h
      exact ⟨h1, h2, h3, cs, e, h4, h5.1, fun j x hx => ⟨(h5.2 j x hx).1, (h5.2 j x hx).2.repv⟩⟩
  | mp fz es =>
    obtain ⟨b, h1, h2, h3, ents, clk, h4, h5, h6⟩ := h
    exact ⟨b, h1, h2, h3, ents, clk, h4, ⟨h5.1, fun j k v hj => let ⟨x, q1, q2, q3⟩ := h5.2 j k v hj; ⟨x, q1, q2, q3.repv⟩⟩, h6⟩
  | it =>
    obtain ⟨b, h1, h2, h3, m, s, sn, lt, h4⟩ := h
    exact ⟨b, h1, h2, h3, m, s, sn, lt, h4⟩
theorem HR.repv {h : Hp} (H : HR w c h) (hp : ∀ b, p b → b < w.heap.size ∧ ¬ c.fz b ∧ ∀ id r, c.loc id ≠ .at_ b r) : HR w { c with pv := p } h :=
  ⟨H.nx, H.dead, H.hi, fun id b hb => (H.blk id b hb).repv, H.inj, H.fzlt, H.base, hp⟩
theorem SR.repv {n : Nat} {st : St} {a : Act} (S : SR n w c st a) : SR n w { c with pv := p } st a := ⟨S.defers, S.size, fun i => (S.val i).repv⟩
theorem Ext.repv (E : Ext w c w' c') (hp : ∀ b, p b → c.pv b) : Ext w { c with pv := p } w' { c' with pv := p } :=
  ⟨E.base, E.nx, E.below, E.fz, E.keep, E.loc, E.size, E.fzb, rfl, fun b hb => E.pkeep b (hp b hb)⟩

/-- What an operation that only makes memory makes: how the value names its block, and the block. -/
def newD (P : Program) (o : Op) (ρ : Operand → AV) : Option ((Nat → AV) × Bool × List AV) :=
  match o with
  | .alloc e => (izero P e).bind fun z => if z.cells.all AV.isCell then some (fun id => .ptr id 0, false, z.cells) else none
  | .makeSlice t l c => match P.underlying t, ρ l, ρ c with
    | some (.slice e), .int .i64 m, .int .i64 m' => match isz P e, ibytes P e, izero P e with
      | some sz, some by_, some z =>
        if 0 ≤ m ∧ m' = m ∧ 0 < sz ∧ m * by_ ≤ 281474976710656 ∧ m ≤ 281474976710656 ∧ z.cells.length = sz ∧ z.cells.all AV.isCell then
          some (fun id => .sl id 0 m.toNat sz, true, (List.replicate m.toNat z.cells).flatten) else none
      | _, _, _ => none
    | _, _, _ => none
  | _ => none
theorem newD_new {o : Op} (ha : isAlloc o = true) {ρ : Operand → AV} {h : Hp} : opNew P dp o ρ h = (newD P o ρ).map fun r => (r.1 h.nx, h.alloc (.cells false r.2.1 r.2.2)) := by
  cases o <;> try (simp [isAlloc] at ha; done)
  case alloc e =>
    simp only [opNew, newD]
    cases izero P e with
    | none => rfl
    | some z =>
      simp only [Option.bind_some]
      split <;> rfl
  case makeSlice t l c =>
    simp only [opNew, newD]
    generalize P.underlying t = u
    generalize ρ l = x
    generalize ρ c = y
    cases u with
    | none => rfl
    | some td =>
    cases td <;> try rfl
    cases x <;> try rfl
    rename_i k m
    cases k <;> try rfl
    cases y <;> try rfl
    rename_i k m'
    cases k <;> try rfl
    dsimp only
    rename_i e
    cases isz P e with
    | none => rfl
    | some sz =>
    cases ibytes P e with
    | none => rfl
    | some by_ =>
    cases izero P e with
    | none => rfl
    | some z =>
    dsimp only
    split <;> rfl
theorem newD_congr {o : Oper} {st st' : St} (hs : ∀ t ∈ readsOf ops o, st t = st' t) : newD P o.op (ev st) = newD P o.op (ev st') := by
  have e : ∀ x ∈ o.op.operands, ev st x = ev st' x := ev_congr fun t ht => hs t (by simp only [readsOf, List.mem_append]; exact .inl ht)
  revert e
  generalize o.op = op
  intro e
  cases op <;> try rfl
  case makeSlice t l c =>
    simp only [newD]
    rw [e l (by simp [Op.operands]), e c (by simp [Op.operands])]
theorem new_real {o : Oper} {ρ : Operand → AV} {σ : Operand → Value} (hρ : ∀ x, VR w c (ρ x) (σ x)) {vf : Nat → AV} {row : Bool} {flat : List AV} (hv : newD P o.op ρ = some (vf, row, flat)) :
    ∃ (x : Nat → Value) (Z : Array Value) (e : TypeId), (execOp σ o).run P w = .ok (.value (x w.heap.size)) (w.alloc (.cells Z e)) ∧ (∀ w c, CR w c flat Z) ∧ ∀ (w : World) (c : Ctx) (id B : Nat), c.loc id = .at_ B row → id < c.nx → w.heap[B]? = some (.cells Z e) → VR w c (vf id) (x B) := by
  revert hv
  generalize hop : o.op = op
  intro hv
  cases op <;> try (simp [newD] at hv; done)
  case alloc e =>
    simp only [newD] at hv
    obtain ⟨z, hz, hv⟩ := Option.bind_eq_some_iff.1 hv
    split at hv
    · rename_i hc
      cases hv
      obtain ⟨Z, hZ, hzz⟩ := izero_inv hz
      have hzv : ∀ w c, VR w c z Z := fun w c => by rw [← hzz]; exact avc_ok (by rw [hzz]; exact hc)
      refine ⟨fun B => .pointer (some ⟨B, 0, none⟩), Z.cells, e, ?_, fun w c => ((hzv w c).cellsRel (all_cells hc)).toCR, fun w c id B hl hid _ => ptr_new _ _ _ _ false hl hid⟩
      simp [execOp, hop, Instr.alloc, hZ, newVar, newRow]
    · cases hv
  case makeSlice t l cp =>
    simp only [newD] at hv
    split at hv
    · rename_i e m m' hu el ec
      split at hv
      · rename_i sz by_ z hs hby hz
        split at hv
        · rename_i hc
          obtain ⟨h0, rfl, hpos, hb1, hb2, hzl, hzc⟩ := hc
          cases hv
          obtain ⟨Z, hZ, hzz⟩ := izero_inv hz
          have hzv : ∀ w c, VR w c z Z := fun w c => by rw [← hzz]; exact avc_ok (by rw [hzz]; exact hzc)
          have hzr := fun w c => (hzv w c).cellsRel (all_cells hzc)
          have hrep := fun w c => replicate_cells (hzr w c) (by omega) m'.toNat
          have hL := (hρ l)
          rw [el] at hL
          have hC := (hρ cp)
          rw [ec] at hC
          obtain ⟨i, hi, hisz⟩ := isz_info hs
          have hib : i.bytes = by_ := by simp only [ibytes, hi, Option.map_some, Option.some.injEq] at hby; exact hby
          refine ⟨fun B => .slice (some ⟨B, 0, none⟩) m'.toNat m'.toNat, _, e, ?_, fun w c => (hrep w c).toCR, fun w c id B hl hid hh => ?_⟩
          · have hZi : i.zero = some Z := by
              have h2 := hZ w
              simp only [zeroValue, Sem.run_bind, typeInfo, run_program, Result.andThen_ok, hi, Sem.run_pure] at h2
              cases hq : i.zero with
              | none => rw [hq] at h2; simp at h2
              | some q => rw [hq] at h2; simp at h2; rw [h2]
            have hrun := run_make (P := P) w t e i Z hu hi hZi .i64 .i64 m' m' h0 (Int.le_refl _) (by rw [hib, Int.mul_comm]; exact hb1) (by omega)
            have hZs : Z.cells.size = z.cells.length := (hzr w c).1.symm
            simp only [execOp, hop, hL.int_inv, hC.int_inv, Sem.run_bind, hrun, Result.andThen_ok, Sem.run_pure, madeCells, hisz, hzl, hZs]
          · have hn : m'.toNat ≤ maxLen := by simp only [maxLen]; omega
            refine .sl _ _ _ _ _ hid ⟨_, _, rfl, Nat.le_refl _, hn, (fun hh => by cases hh), ?_, ?_⟩
            · intro hh; rw [hl] at hh; cases hh
            · intro b row hb hc
              rw [hl] at hb
              cases hb
              have hcs : csize w B = ((Array.range (m'.toNat * z.cells.length)).map fun i => Z.cells[i % Z.cells.size]!).size := by simp [csize, hh]
              rw [hcs]
              have : ((Array.range (m'.toNat * z.cells.length)).map fun i => Z.cells[i % Z.cells.size]!).size = m'.toNat * sz := by simp [hzl]
              rw [this]
              exact ⟨rfl, by omega, fun _ => by omega⟩
        · cases hv
      · cases hv
    · cases hv

/-- The state without the registers of the pending allocations. -/
def mask (ds : List Nat) (st : St) : St := fun t => if t ∈ ds then .undef else st t
theorem mask_nil (st : St) : mask [] st = st := by funext t; simp [mask]
theorem mask_upd {ds : List Nat} {st : St} {d : Option Nat} {v : AV} (hd : ∀ t, d = some t → t ∉ ds) : updO (mask ds st) d v = mask ds (updO st d v) := by
  cases d with
  | none => rfl
  | some d =>
    funext t
    have := hd d rfl
    simp only [updO, upd, mask]
    by_cases ht : t = d
    · subst ht; simp [this]
    · simp [ht]

structure Late (P : Program) (ops : Array Oper) (n : Nat) (w0 : World) (c0 : Ctx) (ds : List Nat) (Pd : List (Nat × Nat)) (w : World) (c : Ctx) (a : Act) (st : St) (h : Hp) : Prop where
  hr : HR w c h
  sr : SR n w c (mask ds st) a
  ext : Ext w0 c0 w { c with pv := c0.pv }
  pv : ∀ b, c.pv b ↔ c0.pv b ∨ ∃ j, (j, b) ∈ Pd
  pend : ∀ j B, (j, B) ∈ Pd → w0.heap.size ≤ B ∧ ∃ o d vf row flat Z e, ops[j]? = some o ∧ newD P o.op (ev st) = some (vf, row, flat) ∧ o.dst = some d ∧ d ∈ ds ∧ d < n ∧ (∀ w c, CR w c flat Z) ∧ w.heap[B]? = some (.cells Z e) ∧ (∀ (w : World) (c : Ctx) (id : Nat), c.loc id = .at_ B row → id < c.nx → w.heap[B]? = some (.cells Z e) → VR w c (vf id) (a.tmps.getD d Go.undef))
  one : ∀ j k B, (j, B) ∈ Pd → (k, B) ∈ Pd → j = k
  two : ∀ j B B', (j, B) ∈ Pd → (j, B') ∈ Pd → B = B'

variable {n : Nat} {w0 : World} {c0 : Ctx} {ds : List Nat} {Pd : List (Nat × Nat)} {a : Act} {st : St} {h : Hp} {ops : Array Oper} {lim : Option Nat}
  {call : FuncId → List AV → Hp → Option (AV × Hp)} {Q : Exit → Act → World → Prop} {l : List Nat}

theorem put_other {d : Option Nat} {x : Value} {t : Nat} (hd : d ≠ some t) : (a.put d x).tmps.getD t Go.undef = a.tmps.getD t Go.undef := by
  cases d with
  | none => rfl
  | some d =>
    simp only [Act.put]
    rw [Array.getD_eq_getD_getElem?, Array.getElem?_setIfInBounds, if_neg (fun e => hd (by rw [e])), Array.getD_eq_getD_getElem?]

theorem Late.step1 (L : Late P ops n w0 c0 ds Pd w c a st h) {a' : Act} {h1 : Hp} {v : AV} {d : Option Nat} (E : Ext w c w' c') (H' : HR w' c' h1) (S' : SR n w' c' (updO (mask ds st) d v) a') (hput : ∃ x, a' = a.put d x) (hdd : ∀ t, d = some t → t ∉ ds) (hdr : ∀ j B, (j, B) ∈ Pd → ∀ oj, ops[j]? = some oj → ∀ t, d = some t → t ∉ readsOf ops oj) :
    Late P ops n w0 c0 ds Pd w' c' a' (updO st d v) h1 := by
  refine ⟨H', by rw [← mask_upd hdd]; exact S', L.ext.trans (E.repv fun b hb => (L.pv b).2 (.inl hb)), fun b => by rw [E.pv]; exact L.pv b, fun j B hj => ?_, L.one, L.two⟩
  obtain ⟨p1, o, d', vf, row, flat, Z, e, p2, p3, p4, p5, p6, p7, p8, p9⟩ := L.pend j B hj
  obtain ⟨x, rfl⟩ := hput
  refine ⟨p1, o, d', vf, row, flat, Z, e, p2, ?_, p4, p5, p6, p7, by rw [E.pkeep B ((L.pv B).2 (.inr ⟨j, hj⟩))]; exact p8, ?_⟩
  · rw [← p3]
    refine newD_congr (ops := ops) fun t ht => ?_
    have := hdr j B hj o p2
    cases d with
    | none => rfl
    | some d =>
      have hne : t ≠ d := fun q => this d rfl (q ▸ ht)
      simp [updO, upd, hne]
  · rw [put_other (fun he => hdd d' he p5)]; exact p9

theorem late_step (hc : OutOk P call) (hn : ∀ (i : Nat) o, ops[i]? = some o → ∀ t, o.dst = some t → t < n) {i : Nat} {o : Oper} (ho : ops[i]? = some o) (L : Late P ops n w0 c0 ds Pd w c a st h) {st1 : St} {h1 : Hp} (hs : stepO P dp call ops lim o st h = some (st1, h1))
    (hrd : ∀ t ∈ readsOf ops o, t ∉ ds) (hdd : ∀ t, o.dst = some t → t ∉ ds) (hdr : ∀ j B, (j, B) ∈ Pd → ∀ oj, ops[j]? = some oj → ∀ t, o.dst = some t → t ∉ readsOf ops oj) (hK : ∀ w' c' a', Late P ops n w0 c0 ds Pd w' c' a' st1 h1 → wpOps P ops Q l a' w') : wpOps P ops Q (i :: l) a w := by
  have H := L.hr
  have S := L.sr
  have hdst := hn i o ho
  have run1 : ∀ {v : AV} {h1 : Hp}, stepK P dp call ops lim o (mask ds st) h = some (v, h1) → (∀ w' c' a', Late P ops n w0 c0 ds Pd w' c' a' (updO st o.dst v) h1 → wpOps P ops Q l a' w') → o.wp P a w (wpOps P ops Q l) Q := by
    intro v h1 hk hr
    exact stepK_ok' hc hk hdst H S fun w' c' a' E H' S' hp => hr w' c' a' (L.step1 E H' S' hp hdd hdr)
  have skip1 : (∀ w' c' a', Late P ops n w0 c0 ds Pd w' c' a' (updO st o.dst .skp) h → wpOps P ops Q l a' w') → wpOps P ops Q l (a.put o.dst Go.undef) w := by
    intro hr
    exact hr _ _ _ (L.step1 (Ext.refl _ _) H (S.put hdst .skp) ⟨_, rfl⟩ hdd hdr)
  rw [stepO_act] at hs
  obtain ⟨⟨v, h2⟩, ha, e⟩ := Option.map_eq_some_iff.1 hs
  cases e
  have hm : act P dp call ops lim o (mask ds st) h = some (v, h1) := by
    rw [act_congr (st' := st) fun t ht => by unfold mask; rw [if_neg (hrd t ht)]]
    exact ha
  simp only [wpOps, ho]
  unfold act at hm
  cases hg : o.guard with
  | none =>
    rw [hg] at hm
    have hw : Region.wanted o (yielded ops a.tmps) = true := by simp [Region.wanted, hg]
    rw [if_pos hw]
    exact .inl (run1 hm hK)
  | some g =>
    obtain ⟨j, w0'⟩ := g
    rw [hg] at hm
    dsimp only at hm ⊢
    cases hd : (ops[j]?).bind (·.dst) with
    | none => rw [hd] at hm; cases hm
    | some d =>
      rw [hd] at hm
      dsimp only at hm
      have hdn : d < n := by
        obtain ⟨oj, hoj, hdj⟩ := Option.bind_eq_some_iff.1 hd
        exact hn j oj hoj d hdj
      obtain ⟨y1, y2⟩ := yielded_ok hd S
      cases hst : mask ds st d <;> rw [hst] at hm <;> (try (cases hm; done))
      case bool b =>
        have hy := y1 b hst hdn
        dsimp only at hm
        by_cases hb : b = w0'
        · rw [if_pos hb] at hm
          have hw : Region.wanted o (yielded ops a.tmps) = true := by simp [Region.wanted, hg, hy, hb]
          rw [if_pos hw]
          exact .inl (run1 hm hK)
        · rw [if_neg hb] at hm
          cases hm
          have hw : Region.wanted o (yielded ops a.tmps) = false := by simp [Region.wanted, hg, hy, hb]
          rw [hw]
          simp only [Bool.false_eq_true, if_false]
          exact skip1 hK
      case skp =>
        cases hm
        have hy := y2 hst
        have hw : Region.wanted o (yielded ops a.tmps) = false := by simp [Region.wanted, hg, hy]
        rw [hw]
        simp only [Bool.false_eq_true, if_false]
        exact skip1 hK

theorem late_start {j d : Nat} {o : Oper} {vf : Nat → AV} {row : Bool} {flat : List AV} (ho : ops[j]? = some o) (hg : o.guard = none) (hd : o.dst = some d) (hds : d ∈ ds) (hdn : d < n) (hz : newD P o.op (ev st) = some (vf, row, flat)) (hrd : ∀ t ∈ readsOf ops o, t ∉ ds) (L : Late P ops n w0 c0 ds Pd w c a st h)
    (hw0 : w0.heap.size ≤ w.heap.size) (hfresh : ∀ j' B, (j', B) ∈ Pd → j' ≠ j ∧ ∀ o', ops[j']? = some o' → o'.dst ≠ some d)
    (hK : ∀ w' c' a', Late P ops n w0 c0 ds ((j, w.heap.size) :: Pd) w' c' a' st h → w0.heap.size ≤ w'.heap.size → wpOps P ops Q l a' w') : wpOps P ops Q (j :: l) a w := by
  have H := L.hr
  have S := L.sr
  have hz' : newD P o.op (ev (mask ds st)) = some (vf, row, flat) := by
    rw [← hz]; exact newD_congr (ops := ops) fun t ht => by unfold mask; rw [if_neg (hrd t ht)]
  obtain ⟨xf, Z, e, hrun, hcr, hvr⟩ := new_real (w := w) (c := c) (σ := a.eval) (fun x => S.ev x) hz'
  simp only [wpOps, ho]
  have hw : Region.wanted o (yielded ops a.tmps) = true := by simp [Region.wanted, hg]
  rw [if_pos hw]
  refine .inl ?_
  have hb : Below w.heap.size w (w.alloc (.cells Z e)) := below_alloc1 w _
  have E0 := Ext.grow H hb c.fz (fun _ hf => hf) (fun _ hf => .inl hf)
  have H0 := H.grow hb c.fz (fun _ hf => hf) (fun _ hf => .inl hf)
  have hlt : w.heap.size < (w.alloc (.cells Z e)).heap.size := by simp
  have hnf : ¬ c.fz w.heap.size := fun hf => Nat.lt_irrefl _ (H.fzlt _ hf)
  have hnl : ∀ id r, c.loc id ≠ .at_ w.heap.size r := fun id r hl => by obtain ⟨_, _, _, _, h2, _⟩ := H.at hl; omega
  have H1 := H0.repv (p := fun b => c.pv b ∨ b = w.heap.size) (fun b hp => by
    rcases hp with hp | rfl
    · exact H0.priv b hp
    · exact ⟨hlt, hnf, hnl⟩)
  have S1 : SR n (w.alloc (.cells Z e)) { c with pv := fun b => c.pv b ∨ b = w.heap.size } (mask ds st) (a.put (some d) (xf w.heap.size)) := by
    have := (S.mono E0).put (d := some d) (fun t ht => by cases ht; exact hdn) (v := .undef) (x := xf w.heap.size) (.undef _)
    have e2 : updO (mask ds st) (some d) .undef = mask ds st := by
      funext t
      simp only [updO, upd, mask]
      by_cases ht : t = d
      · subst ht; simp [hds]
      · simp [ht]
    rw [e2] at this
    exact this.repv
  refine next_value hrun ?_
  rw [hd]
  refine hK _ { c with pv := fun b => c.pv b ∨ b = w.heap.size } _ ⟨H1, S1, ?_, fun b => ?_, fun j' B hj => ?_, fun j' k B h1 h2 => ?_, fun j' B B' h1 h2 => ?_⟩ (by omega)
  · have E0' : Ext w c (w.alloc (.cells Z e)) c := E0
    have E1 : Ext w { c with pv := c0.pv } (w.alloc (.cells Z e)) { c with pv := c0.pv } := E0'.repv fun b hb => (L.pv b).2 (.inl hb)
    exact L.ext.trans E1
  · show c.pv b ∨ b = w.heap.size ↔ _
    rw [L.pv b]
    constructor
    · rintro ((h1 | ⟨j', h1⟩) | rfl)
      · exact .inl h1
      · exact .inr ⟨j', List.mem_cons_of_mem _ h1⟩
      · exact .inr ⟨j, List.mem_cons_self⟩
    · rintro (h1 | ⟨j', h1⟩)
      · exact .inl (.inl h1)
      · rcases List.mem_cons.1 h1 with h2 | h2
        · cases h2; exact .inr rfl
        · exact .inl (.inr ⟨j', h2⟩)
  · rcases List.mem_cons.1 hj with h2 | h2
    · cases h2
      refine ⟨hw0, o, d, vf, row, flat, Z, e, ho, hz, hd, hds, hdn, hcr, alloc_new w _, fun w1 c1 id hl hid hh => ?_⟩
      simp only [Act.put]
      rw [Array.getD_eq_getD_getElem?, Array.getElem?_setIfInBounds, if_pos rfl, if_pos (by rw [S.size]; exact hdn), Option.getD_some]
      exact hvr w1 c1 id _ hl hid hh
    · obtain ⟨p1, o', d', vf', row', flat', Z', e', p2, p3, p4, p5, p6, p7, p8, p9⟩ := L.pend j' B h2
      have hBlt := (H.priv B ((L.pv B).2 (.inr ⟨j', h2⟩))).1
      refine ⟨p1, o', d', vf', row', flat', Z', e', p2, p3, p4, p5, p6, p7, by rw [alloc_old w _ hBlt]; exact p8, ?_⟩
      rw [put_other (fun he => (hfresh j' B h2).2 o' p2 (by rw [p4, ← he]))]; exact p9
  · rcases List.mem_cons.1 h1 with e1 | e1
    · rcases List.mem_cons.1 h2 with e2 | e2
      · cases e1; cases e2; rfl
      · cases e1
        have := (H.priv _ ((L.pv _).2 (.inr ⟨k, e2⟩))).1
        omega
    · rcases List.mem_cons.1 h2 with e2 | e2
      · cases e2
        have := (H.priv _ ((L.pv _).2 (.inr ⟨j', e1⟩))).1
        omega
      · exact L.one j' k B e1 e2
  · rcases List.mem_cons.1 h1 with e1 | e1
    · rcases List.mem_cons.1 h2 with e2 | e2
      · cases e1; cases e2; rfl
      · cases e1; exact absurd rfl (hfresh j B' e2).1
    · rcases List.mem_cons.1 h2 with e2 | e2
      · cases e2; exact absurd rfl (hfresh j B e1).1
      · exact L.two j' B B' e1 e2
theorem late_commit {j d : Nat} {o : Oper} {vf : Nat → AV} {row : Bool} {flat : List AV} (ho : ops[j]? = some o) (hd : o.dst = some d) (hz : newD P o.op (ev st) = some (vf, row, flat)) (L : Late P ops n w0 c0 ds Pd w c a st h) {B : Nat} (hj : (j, B) ∈ Pd)
    (hw0 : c0.base ≤ w0.heap.size) (hp0 : ∀ b, c0.pv b → b < w0.heap.size) (hdiff : ∀ j' B', (j', B') ∈ Pd → j' ≠ j → ∀ o', ops[j']? = some o' → o'.dst ≠ some d ∧ d ∉ readsOf ops o') :
    ∃ c', Late P ops n w0 c0 (ds.filter (· ≠ d)) (Pd.filter (·.1 ≠ j)) w c' a (upd st d (vf h.nx)) (h.alloc (.cells false row flat)) := by
  have H := L.hr
  have S := L.sr
  obtain ⟨p1, o1, d1, vf1, row1, flat1, Z, e, p2, p3, p4, p5, p6, p7, p8, p9⟩ := L.pend j B hj
  rw [ho] at p2; cases p2
  rw [hz] at p3; cases p3
  rw [hd] at p4; cases p4
  obtain ⟨q1, q2, q3⟩ := H.priv B ((L.pv B).2 (.inr ⟨j, hj⟩))
  have H1 := H.repv (p := fun b => c.pv b ∧ b ≠ B) (fun b hp => H.priv b hp.1)
  have hbase : c.base = c0.base := L.ext.base
  obtain ⟨E2, H2⟩ := H1.pushAt (.at_ B row) (.cells false row flat) (fun E => by
    refine ⟨rfl, show c.base ≤ B by omega, ⟨(fun hh => by cases hh), fun hf => absurd hf q2⟩, Z, e, p8, p7 _ _⟩) (fun b r hb id s => by cases hb; exact q3 id s) (fun b r hb hp => by cases hb; exact hp.2 rfl)
  refine ⟨_, ⟨H2, ?_, ?_, fun b => ?_, fun j' B' hj' => ?_, fun j' k B' h1 h2 => L.one j' k B' (List.mem_filter.1 h1).1 (List.mem_filter.1 h2).1, fun j' B' B'' h1 h2 => L.two j' B' B'' (List.mem_filter.1 h1).1 (List.mem_filter.1 h2).1⟩⟩
  · refine ⟨S.defers, S.size, fun t => ?_⟩
    by_cases ht : t = d
    · subst ht
      have : mask (ds.filter (· ≠ t)) (upd st t (vf h.nx)) t = vf h.nx := by simp [mask, upd]
      rw [this]
      exact p9 _ _ _ (by simp only [Ctx.push]; rw [if_pos H.nx.symm]) (by simp [Ctx.push, H.nx]) p8
    · have : mask (ds.filter (· ≠ d)) (upd st d (vf h.nx)) t = mask ds st t := by simp [mask, upd, ht]
      rw [this]
      exact ((S.val t).repv (p := fun b => c.pv b ∧ b ≠ B)).mono E2
  · have E3 : Ext w { c with pv := c0.pv } w { ({ c with pv := fun b => c.pv b ∧ b ≠ B } : Ctx).push (.at_ B row) with pv := c0.pv } := E2.repv (p := c0.pv) fun b hb => ⟨(L.pv b).2 (.inl hb), fun he => by have := hp0 b hb; omega⟩
    exact L.ext.trans E3
  · show (c.pv b ∧ b ≠ B) ↔ _
    rw [L.pv b]
    constructor
    · rintro ⟨h1 | ⟨j', h1⟩, h2⟩
      · exact .inl h1
      · refine .inr ⟨j', List.mem_filter.2 ⟨h1, ?_⟩⟩
        simp only [decide_eq_true_eq, ne_eq]
        rintro rfl
        exact h2 (L.two _ _ _ h1 hj)
    · rintro (h1 | ⟨j', h1⟩)
      · exact ⟨.inl h1, fun he => by have := hp0 b h1; omega⟩
      · have h2 := List.mem_filter.1 h1
        refine ⟨.inr ⟨j', h2.1⟩, ?_⟩
        rintro rfl
        have h3 := L.one j' j _ h2.1 hj
        simp [h3] at h2
  · have h2 := List.mem_filter.1 hj'
    obtain ⟨r1, o', d', vf', row', flat', Z2, e', r2, r3, r4, r5, r6, r7, r8, r9⟩ := L.pend j' B' h2.1
    have hne : j' ≠ j := by simpa using h2.2
    refine ⟨r1, o', d', vf', row', flat', Z2, e', r2, ?_, r4, List.mem_filter.2 ⟨r5, ?_⟩, r6, r7, r8, r9⟩
    · rw [← r3]
      refine newD_congr (ops := ops) fun t ht => ?_
      have hne2 : t ≠ d := fun q => (hdiff j' B' h2.1 hne o' r2).2 (q ▸ ht)
      simp [upd, hne2]
    · simp only [decide_eq_true_eq, ne_eq]
      rintro rfl
      exact (hdiff j' B' h2.1 hne o' r2).1 r4

theorem alloc_step {j d : Nat} {o : Oper} (hop : isAlloc o.op = true) (hg : o.guard = none) (hd : o.dst = some d) {st1 : St} {h1 : Hp} (hs : stepO P dp call ops lim o st h = some (st1, h1)) :
    ∃ vf row flat, newD P o.op (ev st) = some (vf, row, flat) ∧ st1 = upd st d (vf h.nx) ∧ h1 = h.alloc (.cells false row flat) := by
  rw [stepO_act] at hs
  obtain ⟨⟨v, h2⟩, ha, e2⟩ := Option.map_eq_some_iff.1 hs
  unfold act at ha
  rw [hg] at ha
  dsimp only at ha
  have hn : opNew P dp o.op (ev st) h = some (v, h2) := by
    revert ha
    unfold stepK
    generalize hoo : o.op = op at hop
    intro ha
    cases op <;> try (simp [isAlloc] at hop; done)
    all_goals
      simp only [opPure, opRead, opWrite] at ha
      revert ha
      split
      · intro ha; rename_i hq; rw [hq]; exact ha
      · intro ha; cases ha
  rw [newD_new hop] at hn
  obtain ⟨⟨vf, row, flat⟩, h3, h4⟩ := Option.map_eq_some_iff.1 hn
  cases h4
  cases e2
  refine ⟨vf, row, flat, h3, ?_, rfl⟩
  rw [hd]; rfl

/-- What is known of the allocations. -/
structure Allocs (ops : Array Oper) (n : Nat) (A : List Nat) : Prop where
  is : ∀ j ∈ A, ∃ o d, ops[j]? = some o ∧ isAlloc o.op = true ∧ o.guard = none ∧ o.dst = some d ∧ d < n
  dis : ∀ j ∈ A, ∀ k ∈ A, j ≠ k → ∀ o o' d, ops[j]? = some o → ops[k]? = some o' → o.dst = some d → o'.dst ≠ some d
  rd : ∀ j ∈ A, ∀ k ∈ A, ∀ o o' d, ops[j]? = some o → ops[k]? = some o' → o'.dst = some d → d ∉ readsOf ops o

theorem commit_all (hc : OutOk P call) (hn : ∀ (i : Nat) o, ops[i]? = some o → ∀ t, o.dst = some t → t < n) {A : List Nat} (hA : Allocs ops n A) (hw0 : c0.base ≤ w0.heap.size) (hp0 : ∀ b, c0.pv b → b < w0.heap.size) {st' : St} {h' : Hp}
    (hQ : ∀ w' c' a', Ext w0 c0 w' c' → HR w' c' h' → SR n w' c' st' a' → Q .normal a' w') : ∀ (Ac : List Nat) (ds : List Nat) (Pd : List (Nat × Nat)) {w : World} {c : Ctx} {a : Act} {st : St} {h : Hp}, Ac.Nodup → (∀ j ∈ Ac, j ∈ A) → (∀ j, (∃ B, (j, B) ∈ Pd) ↔ j ∈ Ac) →
      (∀ d ∈ ds, ∃ j ∈ Ac, ∃ o, ops[j]? = some o ∧ o.dst = some d) → Late P ops n w0 c0 ds Pd w c a st h → runL (stepO P dp call ops lim) ops (Ac ++ l) st h = some (st', h') → wpOps P ops Q l a w := by
  intro Ac
  induction Ac with
  | nil =>
    intro ds Pd w c a st h _ _ hPd hds L hr
    have hd0 : ds = [] := by
      cases ds with
      | nil => rfl
      | cons d ds => obtain ⟨j, hj, _⟩ := hds d List.mem_cons_self; cases hj
    subst hd0
    have S := L.sr
    rw [mask_nil] at S
    have H1 := L.hr.repv (p := c0.pv) fun b hb => L.hr.priv b ((L.pv b).2 (.inl hb))
    exact runL_ok hc hn l st h hr H1 S.repv fun w' c' a' E' H' S' => hQ w' c' a' (L.ext.trans E') H' S'
  | cons j Ac ih =>
    intro ds Pd w c a st h hnd hin hPd hds L hr
    obtain ⟨o, d, ho, hop, hg, hd, hdn⟩ := hA.is j (hin j List.mem_cons_self)
    simp only [List.cons_append, runL, ho] at hr
    obtain ⟨⟨st1, h1⟩, e1, hr⟩ := Option.bind_eq_some_iff.1 hr
    obtain ⟨vf, row, flat, hz, rfl, rfl⟩ := alloc_step (j := j) hop hg hd e1
    obtain ⟨B, hB⟩ := (hPd j).2 List.mem_cons_self
    obtain ⟨c', L'⟩ := late_commit ho hd hz L hB hw0 hp0 fun j' B' hj' hne o' ho' => ⟨hA.dis j (hin j List.mem_cons_self) j' (hin j' ((hPd j').1 ⟨B', hj'⟩)) (Ne.symm hne) o o' d ho ho' hd, hA.rd j' (hin j' ((hPd j').1 ⟨B', hj'⟩)) j (hin j List.mem_cons_self) o' o d ho' ho hd⟩
    refine ih _ _ (List.nodup_cons.1 hnd).2 (fun k hk => hin k (List.mem_cons_of_mem _ hk)) (fun k => ?_) (fun d' hd' => ?_) L' hr
    · constructor
      · rintro ⟨B', hB'⟩
        have h2 := List.mem_filter.1 hB'
        have h3 := (hPd k).1 ⟨B', h2.1⟩
        rcases List.mem_cons.1 h3 with rfl | h4
        · simp at h2
        · exact h4
      · intro hk
        obtain ⟨B', hB'⟩ := (hPd k).2 (List.mem_cons_of_mem _ hk)
        refine ⟨B', List.mem_filter.2 ⟨hB', ?_⟩⟩
        simp only [decide_eq_true_eq, ne_eq]
        rintro rfl
        exact (List.nodup_cons.1 hnd).1 hk
    · have h2 := List.mem_filter.1 hd'
      obtain ⟨k, hk, o', ho', hdo⟩ := hds d' h2.1
      rcases List.mem_cons.1 hk with rfl | hk
      · rw [ho] at ho'; cases ho'
        rw [hd] at hdo; cases hdo
        simp at h2
      · exact ⟨k, hk, o', ho', hdo⟩

theorem runL_reg {t : Nat} : ∀ (l : List Nat) (st : St) (h : Hp) {st1 : St} {h1 : Hp}, runL (stepO P dp call ops lim) ops l st h = some (st1, h1) → (∀ i ∈ l, ∀ o, ops[i]? = some o → o.dst ≠ some t) → st1 t = st t := by
  intro l
  induction l with
  | nil =>
    intro st h st1 h1 hr _
    simp only [runL, Option.some.injEq, Prod.mk.injEq] at hr
    rw [hr.1]
  | cons i l ih =>
    intro st h st1 h1 hr hn
    simp only [runL] at hr
    cases ho : ops[i]? with
    | none => rw [ho] at hr; exact ih st h hr fun k hk => hn k (List.mem_cons_of_mem _ hk)
    | some o =>
      rw [ho] at hr
      obtain ⟨⟨st2, h2⟩, e1, hr⟩ := Option.bind_eq_some_iff.1 hr
      rw [ih st2 h2 hr fun k hk => hn k (List.mem_cons_of_mem _ hk)]
      rw [stepO_act] at e1
      obtain ⟨⟨v, h3⟩, _, e2⟩ := Option.map_eq_some_iff.1 e1
      cases e2
      have := hn i List.mem_cons_self o ho
      cases hd : o.dst with
      | none => rfl
      | some d =>
        have hne : t ≠ d := fun q => this (by rw [hd, q])
        simp [updO, upd, hne]
theorem weave_ok (hc : OutOk P call) (hn : ∀ (i : Nat) o, ops[i]? = some o → ∀ t, o.dst = some t → t < n) {A : List Nat} (hA : Allocs ops n A) {ds : List Nat} (hds : ∀ j ∈ A, ∀ o d, ops[j]? = some o → o.dst = some d → d ∈ ds) (hdsA : ∀ d ∈ ds, ∃ j ∈ A, ∃ o, ops[j]? = some o ∧ o.dst = some d) {l2 : List Nat} {st1 : St} {h1 : Hp} (hz : ∀ j ∈ A, ∀ o, ops[j]? = some o → ∃ vf row flat, newD P o.op (ev st1) = some (vf, row, flat)) : ∀ (l : List Nat) (Pd : List (Nat × Nat)) {w : World} {c : Ctx} {a : Act} {st : St} {h : Hp},
    l.Nodup → l.Pairwise (fun j i => j ∈ A → i ∉ A → ∀ o oi d, ops[j]? = some o → ops[i]? = some oi → oi.dst = some d → d ∉ readsOf ops o) → (∀ j B, (j, B) ∈ Pd → ∀ i ∈ l, i ∉ A → ∀ o oi d, ops[j]? = some o → ops[i]? = some oi → oi.dst = some d → d ∉ readsOf ops o) → (∀ i ∈ l, i ∉ A → ∀ o, ops[i]? = some o → (∀ t ∈ readsOf ops o, t ∉ ds) ∧ ∀ t, o.dst = some t → t ∉ ds) → (∀ j B, (j, B) ∈ Pd → j ∈ A ∧ j ∉ l) → w0.heap.size ≤ w.heap.size → Late P ops n w0 c0 ds Pd w c a st h →
    runL (stepO P dp call ops lim) ops (l.filter fun i => decide (i ∉ A)) st h = some (st1, h1) →
    (∀ w' c' a' Pd', Late P ops n w0 c0 ds Pd' w' c' a' st1 h1 → (∀ j, (∃ B, (j, B) ∈ Pd') ↔ (∃ B, (j, B) ∈ Pd) ∨ (j ∈ l ∧ j ∈ A)) → wpOps P ops Q l2 a' w') → wpOps P ops Q (l ++ l2) a w := by
  intro l
  induction l with
  | nil =>
    intro Pd w c a st h _ _ _ _ _ _ L hr hK
    simp only [List.filter_nil, runL, Option.some.injEq, Prod.mk.injEq] at hr
    obtain ⟨rfl, rfl⟩ := hr
    exact hK w c a Pd L fun j => by simp
  | cons i l ih =>
    intro Pd w c a st h hnd hpw hPr hS hPd hw L hr hK
    have hpw' := List.pairwise_cons.1 hpw
    have hnd' := List.nodup_cons.1 hnd
    by_cases hi : i ∈ A
    · obtain ⟨o, d, ho, hop, hg, hd, hdn⟩ := hA.is i hi
      obtain ⟨vf, row, flat, hzz⟩ := hz i hi o ho
      rw [List.filter_cons_of_neg (by simpa using hi)] at hr
      rw [List.cons_append]
      have hzs : newD P o.op (ev st) = some (vf, row, flat) := by
        rw [← hzz]
        refine newD_congr (ops := ops) fun t ht => (runL_reg _ _ _ hr fun k hk ok hok hdk => ?_).symm
        have hk' := List.mem_filter.1 hk
        have hkA : k ∉ A := by simpa using hk'.2
        exact hpw'.1 k hk'.1 hi hkA o ok t ho hok hdk ht
      refine late_start ho hg hd (hds i hi o d ho hd) hdn hzs (fun t ht hts => ?_) L hw (fun j' B hj => ?_) fun w' c' a' L' hw' => ?_
      · obtain ⟨k, hk, ok, hok, hdk⟩ := hdsA t hts
        exact hA.rd i hi k hk o ok t ho hok hdk ht
      · have h3 := hPd j' B hj
        have hne : j' ≠ i := fun he => h3.2 (he ▸ List.mem_cons_self)
        exact ⟨hne, fun o' ho' => hA.dis i hi j' h3.1 (Ne.symm hne) o o' d ho ho' hd⟩
      · refine ih _ hnd'.2 hpw'.2 (fun j B hj k hk hkA => ?_) (fun k hk => hS k (List.mem_cons_of_mem _ hk)) (fun j B hj => ?_) hw' L' hr fun w2 c2 a2 Pd2 L2 hP2 => hK w2 c2 a2 Pd2 L2 fun j => ?_
        · rcases List.mem_cons.1 hj with h4 | h4
          · cases h4; exact fun o oi d h1 h2 h3 => hpw'.1 k hk hi hkA o oi d h1 h2 h3
          · exact hPr j B h4 k (List.mem_cons_of_mem _ hk) hkA
        · rcases List.mem_cons.1 hj with h4 | h4
          · cases h4; exact ⟨hi, hnd'.1⟩
          · exact ⟨(hPd j B h4).1, fun hjl => (hPd j B h4).2 (List.mem_cons_of_mem _ hjl)⟩
        · rw [hP2 j]
          constructor
          · rintro (⟨B, hB⟩ | h4)
            · rcases List.mem_cons.1 hB with h5 | h5
              · cases h5; exact .inr ⟨List.mem_cons_self, hi⟩
              · exact .inl ⟨B, h5⟩
            · exact .inr ⟨List.mem_cons_of_mem _ h4.1, h4.2⟩
          · rintro (⟨B, hB⟩ | ⟨h4, h5⟩)
            · exact .inl ⟨B, List.mem_cons_of_mem _ hB⟩
            · rcases List.mem_cons.1 h4 with rfl | h4
              · exact .inl ⟨_, List.mem_cons_self⟩
              · exact .inr ⟨h4, h5⟩
    · have hmem : ∀ j, (j ∈ i :: l ∧ j ∈ A) ↔ (j ∈ l ∧ j ∈ A) := fun j => by
        constructor
        · rintro ⟨h4, h5⟩
          rcases List.mem_cons.1 h4 with rfl | h4
          · exact absurd h5 hi
          · exact ⟨h4, h5⟩
        · rintro ⟨h4, h5⟩
          exact ⟨List.mem_cons_of_mem _ h4, h5⟩
      rw [List.filter_cons_of_pos (by simpa using hi)] at hr
      rw [List.cons_append]
      cases ho : ops[i]? with
      | none =>
        simp only [runL, ho] at hr
        simp only [wpOps, ho]
        exact ih Pd hnd'.2 hpw'.2 (fun j B hj k hk => hPr j B hj k (List.mem_cons_of_mem _ hk)) (fun k hk => hS k (List.mem_cons_of_mem _ hk)) (fun j B hj => ⟨(hPd j B hj).1, fun hjl => (hPd j B hj).2 (List.mem_cons_of_mem _ hjl)⟩) hw L hr fun w2 c2 a2 Pd2 L2 hP2 => hK w2 c2 a2 Pd2 L2 fun j => by rw [hmem j]; exact hP2 j
      | some o =>
        simp only [runL, ho] at hr
        obtain ⟨⟨st2, h2⟩, e1, hr⟩ := Option.bind_eq_some_iff.1 hr
        obtain ⟨r1, r2⟩ := hS i List.mem_cons_self hi o ho
        refine late_step hc hn ho L e1 r1 r2 (fun j B hj oj hoj t ht => hPr j B hj i List.mem_cons_self hi oj o t hoj ho ht) fun w' c' a' L' => ?_
        have hw' : w0.heap.size ≤ w'.heap.size := L'.ext.below.size
        exact ih Pd hnd'.2 hpw'.2 (fun j B hj k hk => hPr j B hj k (List.mem_cons_of_mem _ hk)) (fun k hk => hS k (List.mem_cons_of_mem _ hk)) (fun j B hj => ⟨(hPd j B hj).1, fun hjl => (hPd j B hj).2 (List.mem_cons_of_mem _ hjl)⟩) hw' L' hr fun w2 c2 a2 Pd2 L2 hP2 => hK w2 c2 a2 Pd2 L2 fun j => by rw [hmem j]; exact hP2 j

theorem runL_append {step : Oper → St → Hp → Option (St × Hp)} : ∀ (l1 l2 : List Nat) (st : St) (h : Hp), runL step ops (l1 ++ l2) st h = (runL step ops l1 st h).bind fun r => runL step ops l2 r.1 r.2 := by
  intro l1
  induction l1 with
  | nil => intro l2 st h; rfl
  | cons i l1 ih =>
    intro l2 st h
    simp only [List.cons_append, runL]
    cases ops[i]? with
    | none => exact ih l2 st h
    | some o =>
      dsimp only
      cases step o st h with
      | none => rfl
      | some r => exact ih l2 r.1 r.2
theorem pw_of {Q : Nat → Nat → Prop} : ∀ (L : List Nat), (∀ A m B, L = A ++ m :: B → ∀ i ∈ B, Q m i) → L.Pairwise Q := by
  intro L
  induction L with
  | nil => intro _; exact List.Pairwise.nil
  | cons m L ih => intro h; exact List.Pairwise.cons (h [] m L rfl) (ih fun A k B e => h (m :: A) k B (by rw [e]; rfl))
theorem of_pw {Q : Nat → Nat → Prop} {L : List Nat} (h : L.Pairwise Q) : ∀ A m B, L = A ++ m :: B → ∀ i ∈ B, Q m i := by
  rintro A m B rfl i hi
  exact (List.pairwise_cons.1 (List.pairwise_append.1 h).2.1).1 i hi
theorem known_allocs {A : List Nat} (hA : Allocs ops n A) {l : List Nat} {r : St × Hp} : ∀ (Ac : List Nat) (st : St) (h : Hp), (∀ j ∈ Ac, j ∈ A) → runL (stepO P dp call ops lim) ops (Ac ++ l) st h = some r → ∀ j ∈ Ac, ∀ o, ops[j]? = some o → ∃ vf row flat, newD P o.op (ev st) = some (vf, row, flat) := by
  intro Ac
  induction Ac with
  | nil => intro st h _ _ j hj; cases hj
  | cons k Ac ih =>
    intro st h hin hr j hj o ho
    obtain ⟨o', d, ho', hop', hg, hd, _⟩ := hA.is k (hin k List.mem_cons_self)
    simp only [List.cons_append, runL, ho'] at hr
    obtain ⟨⟨st1, h1⟩, e1, hr⟩ := Option.bind_eq_some_iff.1 hr
    obtain ⟨vf, row, flat, hz, rfl, rfl⟩ := alloc_step (j := k) hop' hg hd e1
    rcases List.mem_cons.1 hj with rfl | hj'
    · rw [ho] at ho'; cases ho'
      exact ⟨vf, row, flat, hz⟩
    · obtain ⟨vf2, row2, flat2, h2⟩ := ih _ _ (fun j hj => hin j (List.mem_cons_of_mem _ hj)) hr j hj' o ho
      refine ⟨vf2, row2, flat2, ?_⟩
      rw [← h2]
      refine newD_congr (ops := ops) fun t ht => ?_
      have hne : t ≠ d := fun q => hA.rd j (hin j hj) k (hin k List.mem_cons_self) o o' d ho ho' hd (q ▸ ht)
      simp [upd, hne]

theorem late_region (hc : OutOk P call) (hcn : CallNew cfg.shared call) (hcm : CallMono call) (hcc : CallCalm cfg call) (hn : ∀ (i : Nat) o, ops[i]? = some o → ∀ t, o.dst = some t → t < n) {A : List Nat}
    (hd : drawG (fun i j a b => pairS cfg ops i j a b || A.contains j) ops = true) (hl : lateB cfg ops A = true) {lk : Nat → Bool} (hlk : ∀ id, lk id = true → id < h.nx) {st' : St} {h' : Hp} (hr : runOpsS P cfg call ops lk ops.toList st h = some (st', h')) {L : List Nat} (hk : Keeps ops L)
    (H : HR w c h) (S : SR n w c st a) (hQ : ∀ w' c' a', Ext w c w' c' → HR w' c' h' → SR n w' c' st' a' → Q .normal a' w') : wpOps P ops Q L a w := by
  rw [runOpsS_runG] at hr
  obtain ⟨k1, k2⟩ := hk
  have ndL : L.Nodup := (List.Perm.nodup_iff k1).2 List.nodup_range
  have memL : ∀ i, i ∈ L ↔ i < ops.size := fun i => by rw [k1.mem_iff]; simp
  obtain ⟨bit, hbit⟩ : ∃ bit : Nat → Nat → Bool, bit = fun m i => ((Region.before ops).getD m 0).testBit i := ⟨_, rfl⟩
  obtain ⟨isR, hisR⟩ : ∃ isR : Nat → Bool, isR = fun k => A.any fun j => bit k j := ⟨_, rfl⟩
  have hlt : ∀ m i, m < ops.size → bit m i = true → i < m := fun m i hm hb => draw_lt hd hm (by rw [hbit] at hb; exact hb)
  have d3 := draw_d3 hd
  simp only [lateB, Bool.and_eq_true, List.all_eq_true, decide_eq_true_eq] at hl
  obtain ⟨⟨⟨⟨⟨ndA, a1⟩, a2⟩, c1⟩, s1⟩, g1⟩ := hl
  have a1' : ∀ j ∈ A, j < ops.size ∧ isAlloc (ops.getD j default).op = true ∧ (ops.getD j default).guard = none ∧ (∃ d, (ops.getD j default).dst = some d) ∧ isR j = false := fun j hj => by
    obtain ⟨b1, b2, b3, b4, b5⟩ := a1 j hj
    refine ⟨b1, b2, by simpa using b3, Option.isSome_iff_exists.1 b4, ?_⟩
    rw [hisR, hbit]; simpa using b5
  have c1' : ∀ k, k < ops.size → isR k = true → ∀ i, i < ops.size → isR i = false → bit k i = true ∨ (i ∉ A ∧ ∀ j ∈ A, i < j → pairS cfg ops i j (ops.getD i default) (ops.getD j default) = true) := fun k hk hRk i hi hRi => by
    have h1 := c1 k (by simpa using hk)
    have e1 : (A.any fun j => ((Region.before ops).getD k 0).testBit j) = true := by rw [hisR, hbit] at hRk; exact hRk
    rw [e1] at h1
    simp only [Bool.not_true, Bool.false_or, List.all_eq_true] at h1
    have h2 := h1 i (by simpa using hi)
    have e2 : (A.any fun j => ((Region.before ops).getD i 0).testBit j) = false := by rw [hisR, hbit] at hRi; exact hRi
    rw [e2, Bool.false_or, Bool.or_eq_true] at h2
    rcases h2 with h2 | h2
    · left; rw [hbit]; exact h2
    · right
      simp only [Bool.and_eq_true, Bool.not_eq_true', List.all_eq_true, Bool.or_eq_true, decide_eq_false_iff_not] at h2
      refine ⟨fun hm => ?_, fun j hj hij => ?_⟩
      · have := h2.1; rw [List.contains_iff_mem.2 hm] at this; cases this
      · rcases h2.2 j hj with h3 | h3
        · omega
        · exact h3
  have s1' : ∀ i, i < ops.size → isR i = false → i ∉ A → ∀ j ∈ A, ∀ d, (ops.getD j default).dst = some d → d ∉ readsOf ops (ops.getD i default) ∧ (ops.getD i default).dst ≠ some d := fun i hi hRi hiA j hj d hdj => by
    have h1 := s1 i (by simpa using hi)
    have e1 : (A.any fun j => ((Region.before ops).getD i 0).testBit j) = false := by rw [hisR, hbit] at hRi; exact hRi
    rw [e1, Bool.false_or, Bool.or_eq_true] at h1
    rcases h1 with h1 | h1
    · exact absurd (by simpa using h1) hiA
    · have h2 := List.all_eq_true.1 h1 j hj
      rw [hdj] at h2
      simp only [Bool.and_eq_true, Bool.not_eq_true', decide_eq_true_eq] at h2
      refine ⟨fun hm => ?_, h2.2⟩
      have := h2.1
      rw [List.contains_iff_mem.2 hm] at this
      cases this
  have hR_of : ∀ k j, j ∈ A → bit k j = true → isR k = true := fun k j hj hb => by rw [hisR]; exact List.any_eq_true.2 ⟨j, hj, hb⟩
  have getD_of : ∀ (i : Nat) o, ops[i]? = some o → ops.getD i default = o := fun i o ho => by rw [Array.getD_eq_getD_getElem?, ho]; rfl
  have g2 : ∀ j ∈ A, (∀ k ∈ A, ∀ d, (ops.getD k default).dst = some d → d ∉ readsOf ops (ops.getD j default)) ∧ ∀ i, i < ops.size → i ∉ A → bit j i = true ∨ ∀ d, (ops.getD i default).dst = some d → d ∉ readsOf ops (ops.getD j default) := fun j hj => by
    obtain ⟨q1, q2⟩ := g1 j hj
    refine ⟨fun k hk d hd hm => ?_, fun i hi hiA => ?_⟩
    · have := q1 k hk
      rw [hd] at this
      simp only [Bool.not_eq_true'] at this
      rw [List.contains_iff_mem.2 hm] at this; cases this
    · have := q2 i (by simpa using hi)
      rw [Bool.or_eq_true, Bool.or_eq_true] at this
      rcases this with h | h | h
      · exact absurd (List.contains_iff_mem.1 h) hiA
      · left; rw [hbit]; exact h
      · right
        intro d hd hm
        rw [hd] at h
        simp only [Bool.not_eq_true'] at h
        rw [List.contains_iff_mem.2 hm] at h; cases h
  have hAl : Allocs ops n A := by
    refine ⟨fun j hj => ?_, fun j hj k hk hne o o' d ho ho' hdj hdk => ?_, fun j hj k hk o o' d ho ho' hdk => ?_⟩
    · obtain ⟨b1, b2, b3, ⟨d, b4⟩, _⟩ := a1' j hj
      have ho : ops[j]? = some ops[j] := Array.getElem?_eq_getElem b1
      rw [getD_of j _ ho] at b2 b3 b4
      exact ⟨_, d, ho, b2, b3, b4, hn j _ ho d b4⟩
    · have h1 := a2 j hj k hk
      rw [getD_of j o ho, getD_of k o' ho', hdj, hdk] at h1
      simp [hne] at h1
    · have h1 := (g2 j hj).1 k hk d
      rw [getD_of j o ho, getD_of k o' ho'] at h1
      exact h1 hdk
  -- the parts
  obtain ⟨X, hX⟩ : ∃ X, X = L.takeWhile fun i => !isR i := ⟨_, rfl⟩
  obtain ⟨Y, hY⟩ : ∃ Y, Y = L.dropWhile fun i => !isR i := ⟨_, rfl⟩
  have hsplit : L = X ++ Y := by rw [hX, hY]; exact (List.takeWhile_append_dropWhile).symm
  have hXn : ∀ i ∈ X, isR i = false := fun i hi => by
    have := List.all_eq_true.1 (List.all_takeWhile (p := fun i => !isR i) (l := L)) i (by rw [← hX]; exact hi)
    simpa using this
  have hYh : ∀ k Y2, Y = k :: Y2 → isR k = true := fun k Y2 e => by
    have h1 : Y.head? = some k := by rw [e]; rfl
    rw [hY] at h1
    have := List.head?_dropWhile_not (fun i => !isR i) L
    rw [h1] at this
    simpa using this
  have pwL : L.Pairwise fun m i => bit m i = false := pw_of L fun X m Y e i hi => by
    cases hb : bit m i with
    | false => rfl
    | true =>
      have h1 := k2 m X Y e i (by rw [hbit] at hb; exact hb)
      rw [e] at ndL
      exact absurd rfl ((List.nodup_append.1 ndL).2.2 i h1 i (List.mem_cons_of_mem _ hi))
  have ndXY := ndL
  rw [hsplit] at ndXY
  obtain ⟨ndX, ndY, ndx⟩ := List.nodup_append.1 ndXY
  have hAX : ∀ j ∈ A, j ∈ X := fun j hj => by
    have hjL : j ∈ L := (memL j).2 (a1' j hj).1
    rw [hsplit] at hjL
    rcases List.mem_append.1 hjL with h | h
    · exact h
    · cases hYe : Y with
      | nil => rw [hYe] at h; cases h
      | cons k Y2 =>
        have hk := hYh k Y2 hYe
        have hkL : k < ops.size := (memL k).1 (by rw [hsplit, hYe]; simp)
        rcases c1' k hkL hk j (a1' j hj).1 (a1' j hj).2.2.2.2 with h3 | h3
        · exact k2 k X Y2 (by rw [hsplit, hYe]) j (by rw [hbit] at h3; exact h3)
        · exact absurd hj h3.1
  have hYA : ∀ i ∈ Y, i ∉ A := fun i hi hiA => ndx i (hAX i hiA) i hi rfl
  have hYp : ∀ i ∈ Y, isR i = false → ∀ j ∈ A, i < j → pairS cfg ops i j (ops.getD i default) (ops.getD j default) = true := fun i hi hRi j hj hij => by
    cases hYe : Y with
    | nil => rw [hYe] at hi; cases hi
    | cons k Y2 =>
      have hk := hYh k Y2 hYe
      have hkL : k < ops.size := (memL k).1 (by rw [hsplit, hYe]; simp)
      have hiL : i < ops.size := (memL i).1 (by rw [hsplit]; exact List.mem_append_right _ hi)
      rcases c1' k hkL hk i hiL hRi with h3 | h3
      · have := k2 k X Y2 (by rw [hsplit, hYe]) i (by rw [hbit] at h3; exact h3)
        exact absurd rfl (ndx i this i hi)
      · exact h3.2 j hj hij
  obtain ⟨Ac, hAc⟩ : ∃ Ac, Ac = (List.range ops.size).filter fun j => A.contains j := ⟨_, rfl⟩
  have mX : ∀ i, i ∈ X → i < ops.size ∧ isR i = false := fun i hi => ⟨(memL i).1 (by rw [hsplit]; exact List.mem_append_left _ hi), hXn i hi⟩
  have mA : ∀ i, i ∈ Ac ↔ i ∈ A := fun i => by
    rw [hAc, List.mem_filter]
    simp only [List.mem_range, List.contains_iff_mem]
    exact ⟨fun h => h.2, fun h => ⟨(a1' i h).1, h⟩⟩
  have ndAc : Ac.Nodup := by rw [hAc]; exact List.nodup_range.filter _
  have pwXY := pwL
  rw [hsplit] at pwXY
  obtain ⟨pwX, pwY, pwc⟩ := List.pairwise_append.1 pwXY
  have pwA : Ac.Pairwise (· < ·) := by rw [hAc]; exact List.pairwise_lt_range.filter _
  obtain ⟨bf, hbf⟩ : ∃ bf : Nat → Nat → Bool, bf = fun m i => bit m i || (A.contains m && (decide (i < m) && !pairS cfg ops i m (ops.getD i default) (ops.getD m default))) := ⟨_, rfl⟩
  have nA : ∀ {m}, m ∉ A → A.contains m = false := fun {m} hm => by
    cases hcm : A.contains m with
    | false => rfl
    | true => exact absurd (List.contains_iff_mem.1 hcm) hm
  have pw' : ((X.filter fun i => decide (i ∉ A)) ++ (Ac ++ Y)).Pairwise fun m i => bf m i = false := by
    refine List.pairwise_append.2 ⟨?_, List.pairwise_append.2 ⟨?_, ?_, ?_⟩, ?_⟩
    · refine (pwX.filter _).imp_of_mem fun {m i} hm hi hb => ?_
      have hmA : m ∉ A := by simpa using (List.mem_filter.1 hm).2
      rw [hbf]; simp only [hb, nA hmA, Bool.false_and, Bool.or_false]
    · refine pwA.imp_of_mem fun {m i} hm hi hlt' => ?_
      have hb : bit m i = false := by
        cases hb : bit m i with
        | false => rfl
        | true => have := hR_of m i ((mA i).1 hi) hb; rw [(a1' m ((mA m).1 hm)).2.2.2.2] at this; cases this
      rw [hbf]; simp only [hb, decide_eq_false (show ¬ i < m by omega), Bool.false_and, Bool.and_false, Bool.or_false]
    · refine pwY.imp_of_mem fun {m i} hm hi hb => ?_
      rw [hbf]; simp only [hb, nA (hYA m hm), Bool.false_and, Bool.or_false]
    · intro m hm i hi
      have hmA := (mA m).1 hm
      have hb := pwc m (hAX m hmA) i hi
      rw [hbf]
      by_cases hlt' : i < m
      · have hRi : isR i = false := by
          cases hRi : isR i with
          | false => rfl
          | true =>
            have hiL : i < ops.size := (memL i).1 (by rw [hsplit]; exact List.mem_append_right _ hi)
            rcases c1' i hiL hRi m (a1' m hmA).1 (a1' m hmA).2.2.2.2 with h3 | h3
            · have := hlt i m hiL h3; omega
            · exact absurd hmA h3.1
        simp only [hb, hYp i hi hRi m hmA hlt', Bool.not_true, Bool.and_false, Bool.or_false]
      · simp only [hb, decide_eq_false hlt', Bool.false_and, Bool.and_false, Bool.or_false]
    · intro m hm i hi
      have hm1 := List.mem_filter.1 hm
      have hmA : m ∉ A := by simpa using hm1.2
      have hb : bit m i = false := by
        rcases List.mem_append.1 hi with h2 | h2
        · cases hb : bit m i with
          | false => rfl
          | true => have := hR_of m i ((mA i).1 h2) hb; rw [hXn m hm1.1] at this; cases this
        · exact pwc m hm1.1 i h2
      rw [hbf]; simp only [hb, nA hmA, Bool.false_and, Bool.or_false]
  have perm' : ((X.filter fun i => decide (i ∉ A)) ++ (Ac ++ Y)).Perm (List.range ops.size) := by
    refine (List.perm_ext_iff_of_nodup ?_ List.nodup_range).2 fun i => ?_
    · refine List.nodup_append.2 ⟨ndX.filter _, List.nodup_append.2 ⟨ndAc, ndY, fun x hx y hy => ?_⟩, fun x hx y hy => ?_⟩
      · rintro rfl
        exact hYA x hy ((mA x).1 hx)
      · rintro rfl
        have h1 := List.mem_filter.1 hx
        have hxA : x ∉ A := by simpa using h1.2
        rcases List.mem_append.1 hy with h2 | h2
        · exact hxA ((mA x).1 h2)
        · exact ndx x h1.1 x h2 rfl
    · simp only [List.mem_append, List.mem_filter, mA, List.mem_range, decide_eq_true_eq]
      rw [← memL i, hsplit, List.mem_append]
      constructor
      · rintro (⟨h1, _⟩ | h1 | h1)
        · exact .inl h1
        · exact .inl (hAX i h1)
        · exact .inr h1
      · rintro (h1 | h1)
        · by_cases hiA : i ∈ A
          · exact .inr (.inl hiA)
          · exact .inl ⟨h1, hiA⟩
        · exact .inr (.inr h1)
  have W := swapperS (P := P) (call := call) (ops := ops) (l := lk) (lim := h.nx) hcn hcc hcm hlk
  have hrun := perm_run W (bf := bf) (fun i m him hms => by
    have h1 := d3 m hms i him
    simp only [Bool.or_eq_true] at h1
    rcases h1 with h1 | h1 | h1
    · left; rw [hbf]; simp only [Bool.or_eq_true]; left; rw [hbit]; exact h1
    · right
      intro x y hx hy
      rw [getD_of i x hx, getD_of m y hy] at h1
      exact h1
    · by_cases hp : pairS cfg ops i m (ops.getD i default) (ops.getD m default) = true
      · right
        intro x y hx hy
        rw [getD_of i x hx, getD_of m y hy] at hp
        exact hp
      · left
        have hp' : pairS cfg ops i m (ops.getD i default) (ops.getD m default) = false := by simpa using hp
        rw [hbf]; simp only [h1, hp', decide_eq_true him, Bool.not_false, Bool.true_and, Bool.or_true]) _ (List.range ops.size) st h (Nat.le_refl _) perm' List.pairwise_lt_range (fun i hi => by simpa using hi) (of_pw pw') (by rw [runL_text]; exact hr)
  have hrun2 := runL_S _ _ _ hrun
  rw [runL_append] at hrun2
  obtain ⟨⟨st1, h1⟩, e1, e2⟩ := Option.bind_eq_some_iff.1 hrun2
  dsimp only at e2
  obtain ⟨ds, hds⟩ : ∃ ds : List Nat, ds = A.filterMap fun j => (ops.getD j default).dst := ⟨_, rfl⟩
  have mds : ∀ d, d ∈ ds ↔ ∃ j ∈ A, (ops.getD j default).dst = some d := fun d => by rw [hds, List.mem_filterMap]
  have hds1 : ∀ j ∈ A, ∀ o d, ops[j]? = some o → o.dst = some d → d ∈ ds := fun j hj o d ho hdo => (mds d).2 ⟨j, hj, by rw [getD_of j o ho]; exact hdo⟩
  have hz := known_allocs hAl Ac st1 h1 (fun j hj => (mA j).1 hj) e2
  rw [hsplit]
  have L0 : Late P ops n w c ds [] w c a st h := by
    refine ⟨H, ⟨S.defers, S.size, fun t => ?_⟩, Ext.refl _ _, fun b => by simp, fun j B hj => (by cases hj), fun j k B hj => (by cases hj), fun j B B' hj => (by cases hj)⟩
    unfold mask
    split
    · exact .undef _
    · exact S.val t
  refine weave_ok hc hn hAl hds1 (fun d hd' => by
      obtain ⟨j, hj, hdj⟩ := (mds d).1 hd'
      refine ⟨j, hj, ops[j]'(a1' j hj).1, Array.getElem?_eq_getElem _, ?_⟩
      rw [getD_of j _ (Array.getElem?_eq_getElem (a1' j hj).1)] at hdj
      exact hdj) (fun j hj => hz j ((mA j).2 hj)) X [] ndX (pwX.imp_of_mem fun {j i} hj hi hb hjA hiA o oi d ho hoi hd => by
      have := (g2 j hjA).2 i (mX i hi).1 hiA
      rcases this with h | h
      · rw [hb] at h; cases h
      · have h2 := h d
        rw [getD_of j o ho, getD_of i oi hoi] at h2
        exact h2 hd) (fun j B hj => (by cases hj)) (fun i hi hiA o ho => ?_) (fun j B hj => (by cases hj)) (Nat.le_refl _) L0 e1 fun w' c' a' Pd' L' hPd' => ?_
  · have h1 := mX i hi
    refine ⟨fun t ht hts => ?_, fun t ht hts => ?_⟩
    · obtain ⟨j, hj, hdj⟩ := (mds t).1 hts
      have := (s1' i h1.1 h1.2 hiA j hj t hdj).1
      rw [getD_of i o ho] at this
      exact this ht
    · obtain ⟨j, hj, hdj⟩ := (mds t).1 hts
      have := (s1' i h1.1 h1.2 hiA j hj t hdj).2
      rw [getD_of i o ho] at this
      exact this ht
  · refine commit_all hc hn hAl H.base (fun b hp => (H.priv b hp).1) hQ Ac ds Pd' ndAc (fun j hj => (mA j).1 hj) (fun j => ?_) (fun d hd' => ?_) L' e2
    · rw [hPd' j, mA j]
      constructor
      · rintro (⟨B, hB⟩ | h1)
        · cases hB
        · exact h1.2
      · intro hj
        exact .inr ⟨hAX j hj, hj⟩
    · obtain ⟨j, hj, hdj⟩ := (mds d).1 hd'
      refine ⟨j, (mA j).2 hj, ops[j]'(a1' j hj).1, Array.getElem?_eq_getElem _, ?_⟩
      rw [getD_of j _ (Array.getElem?_eq_getElem (a1' j hj).1)] at hdj
      exact hdj

theorem region_ok {call : FuncId → List AV → Hp → Option (AV × Hp)} (hc : OutOk P call) (hcn : CallNew cfg.shared call) (hcm : CallMono call) (hcc : CallCalm cfg call) {id n : Nat} {ops : Array Oper} {draw : Bool} (hok : codeOk cfg n (.region id ops draw) = true) {st st' : St} {h h' : Hp}
    (hr : (if draw && cfg.strict id ops.size then runOpsS P cfg call ops (okIds h.nx (wrIds ops st ++ wrX (cfg.wr id ops.size) st)) ops.toList st h else runOps P dp call ops (if draw then some h.nx else none) ops.toList st h) = some (st', h')) {w : World} {c : Ctx} {a : Act} (H : HR w c h) (S : SR n w c st a) {Q : Exit → Act → World → Prop} (hQ : ∀ w' c' a', Ext w c w' c' → HR w' c' h' → SR n w' c' st' a' → Q .normal a' w') :
    (Code.region id ops draw).wp P Q a w := by
  simp only [codeOk, Bool.and_eq_true, List.all_eq_true] at hok
  obtain ⟨k1, k2⟩ := hok
  have hn : ∀ (i : Nat) o, ops[i]? = some o → ∀ t, o.dst = some t → t < n := by
    intro i o ho t ht
    have := k1 o (by have := Array.mem_of_getElem? ho; simpa using this)
    simp only [tmpsOk, ht] at this
    exact of_decide_eq_true this
  cases draw with
  | false =>
    simp only [Bool.false_eq_true, if_false, Bool.false_and] at hr
    rw [runOps_runG, ← runL_text] at hr
    exact wp_region (runL_ok hc hn _ _ _ hr H S hQ)
  | true =>
    simp only [Bool.true_and] at hr
    simp only [Bool.not_true, Bool.false_or] at k2
    obtain ⟨E, H'⟩ := H.drew
    cases hst : cfg.strict id ops.size with
    | false =>
      rw [hst] at hr k2
      simp only [Bool.false_eq_true, if_false, if_true] at hr k2
      rw [runOps_runG] at hr
      refine wp_region_draw fun t => ?_
      have hd := draw_run (swapperO hcn hcm) k2 (Nat.le_refl _) hr (P.follows .mixedOrders) t
      exact runL_ok hc hn _ _ _ hd H' (S.mono E) fun w' c' a' E' => hQ w' c' a' (E.trans E')
    | true =>
      rw [hst] at hr k2
      simp only [if_true, Bool.and_eq_true] at hr k2
      refine wp_region_draw fun t => ?_
      exact late_region hc hcn hcm hcc hn k2.1 k2.2 (fun id hid => by simp only [okIds, Bool.and_eq_true, decide_eq_true_eq] at hid; exact hid.1) hr (draw_keeps k2.1 _ t) H' (S.mono E) fun w' c' a' E' => hQ w' c' a' (E.trans E')

end
end Go.Am

