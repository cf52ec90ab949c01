/-
  Operations that make memory.
-/
import Derived.Test.YtcdpkgmkckfonaaAmSeal
import Derived.Laws.MakeOwn
set_option linter.unusedVariables false
set_option linter.unusedSimpArgs false
namespace Go.Am
open Go Go.RowKit

variable {dp : Bool} {P : Program} {w : World} {c : Ctx} {h : Hp}

theorem all_cells {l : List AV} (h : l.all AV.isCell = true) : ∀ y ∈ l, y.isCell = true := fun y hy => List.all_eq_true.1 h y hy

theorem ptr_new (c : Ctx) (w : World) (id b : Nat) (row : Bool) (hl : c.loc id = .at_ b row) (hid : id < c.nx) : VR w c (.ptr id 0) (.pointer (some ⟨b, 0, none⟩)) :=
  .ptr _ _ _ hid ⟨_, rfl, fun b' row' h => by rw [hl] at h; cases h; rfl⟩

theorem replicate_cells {z : List AV} {Z : Array Value} (hz : CRel w c z Z) (hpos : 0 < z.length) (n : Nat) :
    CRel w c (List.replicate n z).flatten ((Array.range (n * z.length)).map fun i => Z[i % Z.size]!) := by
  have hu : ∀ x ∈ List.replicate n z, x.length = z.length := fun x hx => by rw [(List.mem_replicate.1 hx).2]
  have hl := flatten_len hu
  rw [List.length_replicate] at hl
  refine ⟨by rw [hl]; simp, ?_, ?_⟩
  · intro x hx
    obtain ⟨l, h1, h2⟩ := List.mem_flatten.1 hx
    rw [(List.mem_replicate.1 h1).2] at h2
    exact hz.2.1 x h2
  · intro j x hj
    have hlt := (List.getElem?_eq_some_iff.1 hj).1
    rw [hl] at hlt
    have hdiv : j / z.length < n := by rw [Nat.div_lt_iff_lt_mul hpos]; exact hlt
    have hmod : j % z.length < z.length := Nat.mod_lt _ hpos
    have hat := flatten_at hu (j := j / z.length) (cs := z) (by simp [hdiv]) (j % z.length) hmod
    have e : j / z.length * z.length + j % z.length = j := by rw [Nat.mul_comm]; exact Nat.div_add_mod j z.length
    rw [e, hj] at hat
    have h1 := hz.2.2 _ x hat.symm
    have hZ : Z.size = z.length := hz.1.symm
    rw [Array.getD_eq_getD_getElem?]
    rw [Array.getD_eq_getD_getElem?] at h1
    have hm' : j % z.length < Z.size := by omega
    rw [Array.getElem?_eq_getElem hm', Option.getD_some] at h1
    simp only [Array.getElem?_map, Array.getElem?_range, if_pos hlt, Option.map_some, Option.getD_some, hZ]
    rw [getElem!_pos Z (j % z.length) hm']
    exact h1

theorem opNew_ok (H : HR w c h) {o : Oper} {ρ : Operand → AV} {σ : Operand → Value} (hρ : ∀ x, VR w c (ρ x) (σ x)) {v : AV} {h' : Hp} (hv : opNew P dp o.op ρ h = some (v, h')) :
    ∃ x w' c', (execOp σ o).run P w = .ok (.value x) w' ∧ Ext w c w' c' ∧ HR w' c' h' ∧ VR w' c' v x := by
  revert hv
  generalize hop : o.op = op
  intro hv
  cases op with
  | alloc e =>
    simp only [opNew] at hv
    obtain ⟨z, hz, hv⟩ := Option.bind_eq_some_iff.1 hv
    split at hv
    · rename_i hc
      cases hv
      obtain ⟨Z, hZ, hzz⟩ := izero_inv hz
      have hzv : VR w c z Z := by rw [← hzz]; exact avc_ok (by rw [hzz]; exact hc)
      obtain ⟨E, H', hl, _⟩ := H.new (hzv.cellsRel (all_cells hc)) e false
      refine ⟨.pointer (some ⟨w.heap.size, 0, none⟩), _, _, ?_, E, H', ?_⟩
      · simp [execOp, hop, Instr.alloc, hZ, newVar, newRow]
      · exact ptr_new _ _ _ _ false hl (by simp [Ctx.push, H.nx])
    · cases hv
  | box e x =>
    simp only [opNew] at hv
    split at hv
    · rename_i hc
      cases hv
      obtain ⟨E, H', hl, _⟩ := H.new ((hρ x).cellsRel (all_cells hc)) e false
      refine ⟨.pointer (some ⟨w.heap.size, 0, none⟩), _, _, ?_, E, H', ?_⟩
      · simp [execOp, hop, Instr.box, newVar, newRow]
      · exact ptr_new _ _ _ _ false hl (by simp [Ctx.push, H.nx])
    · cases hv
  | makeMap t r =>
    cases r with
    | some r => simp [opNew] at hv
    | none =>
    simp only [opNew, Option.some.injEq, Prod.mk.injEq] at hv
    obtain ⟨rfl, rfl⟩ := hv
    have hb := below_alloc1 w (.map #[] 0)
    have E := H.pushExt hb (.at_ w.heap.size false)
    refine ⟨.map (some w.heap.size), _, _, ?_, E, H.push hb (.at_ w.heap.size false) (.mp false []) ?_ (fun b r hl => by cases hl; exact Nat.le_refl _), ?_⟩
    · simp [execOp, hop, Instr.makeMap]
    · exact ⟨w.heap.size, rfl, H.base, ⟨(fun hf => by cases hf), fun hf => absurd (H.fzlt _ hf) (Nat.lt_irrefl _)⟩, #[], 0, alloc_new w _, ⟨rfl, by simp⟩, by simp [BornOk]⟩
    · refine .mp _ _ (by simp [Ctx.push, H.nx]) ⟨_, rfl, fun b row hl => ?_⟩
      simp only [Ctx.push] at hl
      rw [if_pos H.nx.symm] at hl
      cases hl; rfl
  | makeSlice t l cp =>
    simp only [opNew] at hv
    split at hv
    · rename_i e m m' hu el ec
      split at hv
      · rename_i sz by_ z hs hby hz
        split at hv
        · rename_i hc
          obtain ⟨h0, rfl, hpos, hb1, hb2, hzl, hzc⟩ := hc
          cases hv
          obtain ⟨Z, hZ, hzz⟩ := izero_inv hz
          have hzv : VR w c z Z := by rw [← hzz]; exact avc_ok (by rw [hzz]; exact hzc)
          have hzr := hzv.cellsRel (all_cells hzc)
          have hrep := replicate_cells hzr (by omega) m'.toNat
          obtain ⟨E, H', hl, hcs⟩ := H.new hrep e true
          have hL := (hρ l)
          rw [el] at hL
          have hC := (hρ cp)
          rw [ec] at hC
          obtain ⟨i, hi, hisz⟩ := isz_info hs
          have hib : i.bytes = by_ := by simp only [ibytes, hi, Option.map_some, Option.some.injEq] at hby; exact hby
          refine ⟨.slice (some ⟨w.heap.size, 0, none⟩) m'.toNat m'.toNat, _, _, ?_, E, H', ?_⟩
          · have hzi : i.zero = some Z ∨ True := .inr trivial
            have hZi : i.zero = some Z := by
              have h2 := hZ w
              simp only [zeroValue, Sem.run_bind, typeInfo, run_program, Result.andThen_ok, hi, Sem.run_pure] at h2
              cases hq : i.zero with
              | none => rw [hq] at h2; simp at h2
              | some q => rw [hq] at h2; simp at h2; rw [h2]
            have hrun := run_make (P := P) w t e i Z hu hi hZi .i64 .i64 m' m' h0 (Int.le_refl _) (by rw [hib, Int.mul_comm]; exact hb1) (by omega)
            have hZs : Z.cells.size = z.cells.length := hzr.1.symm
            simp only [execOp, hop, hL.int_inv, hC.int_inv, Sem.run_bind, hrun, Result.andThen_ok, Sem.run_pure, madeCells, hisz, hzl, hZs]
          · have hn : m'.toNat ≤ maxLen := by simp only [maxLen]; omega
            refine .sl _ _ _ _ _ (by simp [Ctx.push, H.nx]) ⟨_, _, rfl, Nat.le_refl _, hn, (fun hh => by cases hh), ?_, ?_⟩
            · intro hh; rw [hl] at hh; cases hh
            · intro b row hb hc
              rw [hl] at hb
              cases hb
              rw [hcs]
              have : ((Array.range (m'.toNat * z.cells.length)).map fun i => Z.cells[i % Z.cells.size]!).size = m'.toNat * sz := by simp [hzl]
              rw [this]
              exact ⟨rfl, by omega, fun _ => by omega⟩
        · cases hv
      · cases hv
    · cases hv
  | buildSlice t len parts =>
    simp only [opNew] at hv
    split at hv
    case h_2 => cases hv
    case h_1 e hu =>
    split at hv
    case h_2 => cases hv
    case h_1 sz z hs hz =>
    split at hv
    case isTrue hc0 =>
      obtain ⟨rfl, hp0, hpos⟩ := hc0
      cases hv
      obtain ⟨E, H', hl, hcs⟩ := H.new (flat := []) (cs := #[]) ⟨rfl, by simp, by simp⟩ e true
      refine ⟨.slice (some ⟨w.heap.size, 0, none⟩) 0 0, _, _, ?_, E, H', ?_⟩
      · simp only [execOp, hop, Instr.buildSlice, Sem.run_bind, run_underlying hu, Result.andThen_ok, run_size hs, Nat.zero_mul, hp0]
        have r0 : Array.range 0 = #[] := by simp
        simp [newRow, Instr.fill]
        rw [r0, Array.map_empty]
      · refine .sl _ _ _ _ _ (by simp [Ctx.push, H.nx]) ⟨_, _, rfl, Nat.le_refl _, Nat.zero_le _, (fun hh => by cases hh), ?_, ?_⟩
        · intro hh; rw [hl] at hh; cases hh
        · intro b row hb hc
          rw [hl] at hb
          cases hb
          rw [hcs]
          exact ⟨rfl, by simp, fun _ => by simp⟩
    case isFalse hc0 =>
    split at hv
    case isFalse => cases hv
    case isTrue hc =>
    obtain ⟨hpos, hbig, hzl, hzc, hzp⟩ := hc
    split at hv
    case isTrue hdp =>
      -- the new slice stays alive
      split at hv
      case isFalse => cases hv
      case isTrue hvs =>
      obtain ⟨cs, e2, hv⟩ := Option.map_eq_some_iff.1 hv
      cases hv
      obtain ⟨Z, hZ, hzz⟩ := izero_inv hz
      have hzv : VR w c z Z := by rw [← hzz]; exact avc_ok (by rw [hzz]; exact hzc)
      have hzr := hzv.cellsRel (all_cells hzc)
      have hrep := replicate_cells hzr (by omega) len
      obtain ⟨V, hV, hout⟩ := fill_ok (w := w) (c := c) (fun i => some (i * sz, sz)) ((parts.toList.map (·.1)).zip (parts.toList.map fun (_, x) => ρ x)) (parts.map fun p => (p.1, σ p.2)).toList (by simp) (by
        intro j i v hj
        rw [List.getElem?_zip_eq_some] at hj
        obtain ⟨j1, j2⟩ := hj
        simp only [List.getElem?_map, Option.map_eq_some_iff] at j1 j2
        obtain ⟨p, hp, rfl⟩ := j1
        obtain ⟨p2, hp2, rfl⟩ := j2
        rw [hp] at hp2; cases hp2
        have hp' : parts[j]? = some p := by simpa using hp
        exact ⟨σ p.2, by simp [hp'], hρ p.2⟩) (by
        intro p hp y hy
        have := List.all_eq_true.1 hvs p.2 (List.of_mem_zip hp).2
        exact all_cells this y hy) _ _ _ hrep e2
      have hsetl : ∀ (l : List (Nat × AV)) (a b : List AV), fillA (fun i => some (i * sz, sz)) a l = some b → b.length = a.length := by
        intro l
        induction l with
        | nil => intro a b h; simp only [fillA, Option.some.injEq] at h; rw [h]
        | cons p l ih =>
          intro a b h
          obtain ⟨i, v⟩ := p
          simp only [fillA] at h
          split at h
          · rename_i hcond
            rw [ih _ _ h, (setL_get v.cells a (i * sz) (by omega)).1]
          · cases h
      have hu' : ∀ x ∈ List.replicate len z.cells, x.length = z.cells.length := fun x hx => by rw [(List.mem_replicate.1 hx).2]
      have hlen : cs.length = len * sz := by
        rw [hsetl _ _ _ e2, flatten_len hu', List.length_replicate, hzl]
      have hVs : V.size = len * sz := by rw [← hout.1, hlen]
      obtain ⟨E, H', hl, hcs⟩ := H.new hout e true
      obtain ⟨i, hi, hisz⟩ := isz_info hs
      have hbig' : ¬ len * sz > 2 ^ 24 := by omega
      rw [hzl] at hV
      refine ⟨.slice (some ⟨w.heap.size, 0, none⟩) len len, _, _, ?_, E, H', ?_⟩
      · by_cases h0 : len * sz = 0
        · have hV' : Instr.fill (fun i => some (i * sz, sz)) ((Array.range (len * sz)).map fun x => (#[] : Array Value)[x % (#[] : Array Value).size]!) (parts.map fun p => (p.1, σ p.2)).toList = some V := by
            have r0 : Array.range 0 = #[] := by simp
            rw [← hV, h0, r0, Array.map_empty, Array.map_empty]
          simp only [execOp, hop, Instr.buildSlice, Sem.run_bind, run_underlying hu, Result.andThen_ok, run_size hs, hbig', if_false]
          rw [if_pos h0]
          simp only [Sem.run_bind, Sem.run_pure, Result.andThen_ok]
          rw [hV']
          simp [newRow]
        · simp only [execOp, hop, Instr.buildSlice, Sem.run_bind, run_underlying hu, Result.andThen_ok, run_size hs, hbig', if_false]
          rw [if_neg h0]
          simp only [Sem.run_bind, Sem.run_pure, Result.andThen_ok, hZ]
          rw [hV]
          simp [newRow]
      · have hlm : len ≤ maxLen := by
          simp only [maxLen]; have := Nat.le_mul_of_pos_right len hpos; omega
        refine .sl _ _ _ _ _ (by simp [Ctx.push, H.nx]) ⟨_, _, rfl, Nat.le_refl _, hlm, (fun hh => by cases hh), ?_, ?_⟩
        · intro hh; rw [hl] at hh; cases hh
        · intro b row hb hc
          rw [hl] at hb
          cases hb
          rw [hcs, hVs]
          exact ⟨rfl, by omega, fun _ => by omega⟩
    case isFalse hdp =>
    obtain ⟨⟨vs, h1⟩, e1, hv⟩ := Option.bind_eq_some_iff.1 hv
    dsimp only at hv
    split at hv
    case isFalse => cases hv
    case isTrue hvs =>
    obtain ⟨cs, e2, hv⟩ := Option.bind_eq_some_iff.1 hv
    split at hv
    case isFalse => cases hv
    case isTrue hcp =>
    cases hv
    obtain ⟨Z, hZ, hzz⟩ := izero_inv hz
    have hrel : ∀ (j : Nat) (v : AV), (parts.toList.map fun p => ρ p.2)[j]? = some v → VR w c v (((parts.map fun p => σ p.2)[j]?).getD Go.undef) := by
      intro j v hj
      simp only [List.getElem?_map, Option.map_eq_some_iff] at hj
      obtain ⟨p, hp, rfl⟩ := hj
      have : parts[j]? = some p := by simpa using hp
      simp only [Array.getElem?_map, this, Option.map_some, Option.getD_some]
      exact hρ p.2
    obtain ⟨c1, E1, H1, hl1, hr1, hp1⟩ := sealArgs_ok _ H (fun j => ((parts.map fun p => σ p.2)[j]?).getD Go.undef) hrel e1
    have hzv : VR w c1 z Z := by rw [← hzz]; exact avc_ok (by rw [hzz]; exact hzc)
    have hzr := hzv.cellsRel (all_cells hzc)
    have hrep := replicate_cells hzr (by omega) len
    obtain ⟨V, hV, hout⟩ := fill_ok (w := w) (c := c1) (fun i => some (i * sz, sz)) ((parts.toList.map (·.1)).zip vs) (parts.map fun p => (p.1, σ p.2)).toList (by simp [hl1]) (by
      intro j i v hj
      rw [List.getElem?_zip_eq_some] at hj
      obtain ⟨j1, j2⟩ := hj
      simp only [List.getElem?_map, Option.map_eq_some_iff] at j1
      obtain ⟨p, hp, rfl⟩ := j1
      have hp' : parts[j]? = some p := by simpa using hp
      have := hr1 j v j2
      simp only [Array.getElem?_map, hp', Option.map_some, Option.getD_some] at this
      exact ⟨σ p.2, by simp [hp'], this⟩) (by
      intro p hp y hy
      have := List.all_eq_true.1 hvs p.2 (List.of_mem_zip hp).2
      exact all_cells this y hy) _ _ _ hrep e2
    -- the new block, at once a block that nobody writes
    have hb := below_alloc1 w (.cells V e)
    have E2 := Ext.grow H1 hb (fun b => c1.fz b ∨ b = w.heap.size) (fun b hb => .inl hb) (fun b hb => by
      rcases hb with hb | rfl
      · exact .inl hb
      · exact .inr ⟨Nat.le_refl _, by simp⟩)
    have H2 := H1.grow hb (fun b => c1.fz b ∨ b = w.heap.size) (fun b hb => .inl hb) (fun b hb => by
      rcases hb with hb | rfl
      · exact .inl hb
      · exact .inr ⟨Nat.le_refl _, by simp⟩)
    have hsetl : ∀ (l : List (Nat × AV)) (a b : List AV), fillA (fun i => some (i * sz, sz)) a l = some b → b.length = a.length := by
      intro l
      induction l with
      | nil => intro a b h; simp only [fillA, Option.some.injEq] at h; rw [h]
      | cons p l ih =>
        intro a b h
        obtain ⟨i, v⟩ := p
        simp only [fillA] at h
        split at h
        · rename_i hcond
          rw [ih _ _ h, (setL_get v.cells a (i * sz) (by omega)).1]
        · cases h
    have hu' : ∀ x ∈ List.replicate len z.cells, x.length = z.cells.length := fun x hx => by rw [(List.mem_replicate.1 hx).2]
    have hlen : cs.length = len * sz := by
      rw [hsetl _ _ _ e2, flatten_len hu', List.length_replicate, hzl]
    obtain ⟨k1, k2, k3⟩ := chunk_ok hpos len cs hlen
    refine ⟨.slice (some ⟨w.heap.size, 0, none⟩) len len, _, _, ?_, E1.trans E2, H2, ?_⟩
    · obtain ⟨i, hi, hisz⟩ := isz_info hs
      have hbig' : ¬ len * sz > 2 ^ 24 := by omega
      rw [hzl] at hV
      by_cases h0 : len * sz = 0
      · have hV' : Instr.fill (fun i => some (i * sz, sz)) ((Array.range (len * sz)).map fun x => (#[] : Array Value)[x % (#[] : Array Value).size]!) (parts.map fun p => (p.1, σ p.2)).toList = some V := by
          have r0 : Array.range 0 = #[] := by simp
          rw [← hV, h0, r0, Array.map_empty, Array.map_empty]
        simp only [execOp, hop, Instr.buildSlice, Sem.run_bind, run_underlying hu, Result.andThen_ok, run_size hs, hbig', if_false]
        rw [if_pos h0]
        simp only [Sem.run_bind, Sem.run_pure, Result.andThen_ok]
        rw [hV']
        simp [newRow]
      · simp only [execOp, hop, Instr.buildSlice, Sem.run_bind, run_underlying hu, Result.andThen_ok, run_size hs, hbig', if_false]
        rw [if_neg h0]
        simp only [Sem.run_bind, Sem.run_pure, Result.andThen_ok, hZ]
        rw [hV]
        simp [newRow]
    · have e3 : VR (w.alloc (.cells V e)) { c1 with fz := fun b => c1.fz b ∨ b = w.heap.size } (.lst (chunk sz cs)) (.slice (some ⟨w.heap.size, 0, none⟩) (chunk sz cs).length len) := by
        have hrow := (hout.mono E2).toCR.row (alloc_new w (.cells V e))
        obtain ⟨f, f1, f2⟩ := hrow.cells cs.length (Nat.le_refl _)
        rw [List.take_length] at f2
        refine .lst _ _ len sz f ⟨by omega, by simp only [maxLen]; have := Nat.le_mul_of_pos_right len hpos; omega⟩ (fun _ => .inr rfl) k3 ?_ ?_ ?_
        · rw [k2]; exact f2.2.1
        · rw [k2]; exact f1
        · rw [k2]
          intro j y hj
          have h1 := f2.2.2 j y hj
          have hlt := (List.getElem?_eq_some_iff.1 hj).1
          simpa only [Array.getD_eq_getD_getElem?, List.getElem?_toArray, List.getElem?_map, List.getElem?_range hlt, Option.map_some, Option.getD_some] using h1
      rw [k1] at e3
      exact e3
  | _ => simp [opNew] at hv

end Go.Am

