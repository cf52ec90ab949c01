/-
  Operations that look at memory and leave it alone.
-/
import Derived.Test.YtcdpkgmkckfonaaAmPure
set_option linter.unusedVariables false
set_option linter.unusedSimpArgs false
namespace Go.Am
open Go Go.RowKit

variable {P : Program} {w : World} {c : Ctx} {h : Hp}

/-- From an address on lie these cells. -/
def RowAt (w : World) (c : Ctx) (cs : List AV) (a : Addr) : Prop := ∀ (j : Nat) (x : AV), cs[j]? = some x → ∃ v, w.cell? (a.add j) = some v ∧ VR w c x v ∧ x.isCell = true

theorem run_loadCellsFrom (a : Addr) (f : Nat → Value) : ∀ (n i : Nat) (acc : Array Value), (∀ j, j < n → w.cell? (a.add (i + j)) = some (f (i + j))) →
    (loadCellsFrom a i n acc).run P w = .ok (acc ++ ((List.range' i n).map f).toArray) w := by
  intro n
  induction n with
  | zero => intro i acc _; simp [loadCellsFrom]
  | succ n ih =>
    intro i acc hc
    have h0 := hc 0 (by omega)
    simp only [Nat.add_zero] at h0
    simp only [loadCellsFrom, Sem.run_bind, run_load, h0, Result.andThen_ok]
    rw [ih (i + 1) _ (fun j hj => by have := hc (j + 1) (by omega); simpa [Nat.add_assoc, Nat.add_comm 1 j] using this)]
    simp [List.range'_succ]
theorem run_loadCells (a : Addr) (f : Nat → Value) (n : Nat) (hc : ∀ j, j < n → w.cell? (a.add j) = some (f j)) : (loadCells a n).run P w = .ok ((List.range n).map f).toArray w := by
  simp only [loadCells]
  rw [run_loadCellsFrom a f n 0 #[] (fun j hj => by simpa using hc j hj)]
  simp [List.range_eq_range']

theorem RowAt.cells {cs : List AV} {a : Addr} (hr : RowAt w c cs a) (n : Nat) (hn : n ≤ cs.length) : ∃ f : Nat → Value, (∀ j, j < n → w.cell? (a.add j) = some (f j)) ∧ CRel w c (cs.take n) ((List.range n).map f).toArray := by
  refine ⟨fun j => (w.cell? (a.add j)).getD Go.undef, ?_, ?_, ?_, ?_⟩
  · intro j hj
    obtain ⟨v, hv, _⟩ := hr j _ (List.getElem?_eq_getElem (show j < cs.length by omega))
    simp [hv]
  · simp; omega
  · intro x hx
    obtain ⟨j, hj⟩ := List.mem_iff_getElem?.1 (List.mem_of_mem_take hx)
    obtain ⟨_, _, _, h3⟩ := hr j x hj
    exact h3
  · intro j x hj
    rw [List.getElem?_take] at hj
    split at hj
    · rename_i hjn
      obtain ⟨v, h1, h2, h3⟩ := hr j x hj
      simp only [Array.getD_eq_getD_getElem?, List.getElem?_toArray, List.getElem?_map, List.getElem?_range hjn, Option.map_some, Option.getD_some, h1]
      exact h2
    · cases hj

theorem RowAt.drop {cs : List AV} {a : Addr} (hr : RowAt w c cs a) (n : Nat) : RowAt w c (cs.drop n) (a.add n) := by
  intro j x hj
  rw [List.getElem?_drop] at hj
  rw [add_add]
  exact hr _ x hj

theorem RowAt.load {cs : List AV} {a : Addr} (hr : RowAt w c cs a) {t : TypeId} {off : Nat} {v : AV} (hl : loadA P t cs off = some v) : ∃ x, (loadVar t (a.add off)).run P w = .ok x w ∧ VR w c v x := by
  simp only [loadA, partA] at hl
  split at hl
  case h_2 => cases hl
  case h_1 d n hd hn =>
    by_cases ha : aggD d = true
    · rw [if_pos ha] at hl
      split at hl
      case isFalse => cases hl
      case isTrue hle =>
        cases hl
        obtain ⟨f, h1, h2⟩ := (hr.drop off).cells n (by simp; omega)
        exact ⟨_, by simp only [loadVar, Sem.run_bind, run_isAgg hd, Result.andThen_ok, ha, if_true, run_size hn, run_loadCells _ f n h1, Sem.run_pure], h2.agg⟩
    · have ha' : aggD d = false := by simpa using ha
      rw [ha', if_neg (by simp)] at hl
      obtain ⟨v', h1, h2, _⟩ := hr _ v hl
      exact ⟨v', by simp [loadVar, run_isAgg hd, ha', h1], h2⟩

theorem VR.pp_row {cs : List AV} {x : Value} (h : VR w c (.pp cs) x) : ∃ a, x = .pointer (some a) ∧ RowAt w c cs a := by
  cases h with
  | pp _ a cv hfz hcell hc hv =>
    exact ⟨a, rfl, fun j x hj => ⟨cv j, hc j (List.getElem?_eq_some_iff.1 hj).1, hv j x hj, hcell x (List.mem_of_getElem? hj)⟩⟩
theorem VR.lst_row {xs : List (List AV)} {A : Option Addr} {n cap : Nat} (h : VR w c (.lst xs) (.slice A n cap)) : xs.flatten = [] ∨ ∃ a, A = some a ∧ RowAt w c xs.flatten a := by
  cases h with
  | lst0 => exact .inl rfl
  | lst _ a cap sz cv hcap hfz hu hcell hc hv =>
    exact .inr ⟨a, rfl, fun j x hj => ⟨cv j, hc j (List.getElem?_eq_some_iff.1 hj).1, hv j x hj, hcell x (List.mem_of_getElem? hj)⟩⟩

theorem CR.row {flat : List AV} {cs : Array Value} {e : TypeId} {fr : Nat × Nat} {b : Nat} (hc : CR w c flat cs) (hb : w.heap[b]? = some (.cells cs e fr)) : RowAt w c flat ⟨b, 0, none⟩ := by
  intro j x hj
  obtain ⟨h1, h2⟩ := hc.2 j x hj
  have hlt : j < cs.size := Nat.lt_of_lt_of_le (List.getElem?_eq_some_iff.1 hj).1 hc.1
  refine ⟨cs[j], ?_, ?_, h1⟩
  · rw [add_lit]
    simp [World.cell?, hb, hlt]
  · simpa [Array.getD, hlt] using h2

/-- A block that is read. -/
theorem HR.read (H : HR w c h) {id : Nat} {fz row : Bool} {flat : List AV} (hb : h.bl id = some (.cells fz row flat)) :
    (c.loc id = .nilv ∧ flat = [] ∧ row = true) ∨ ∃ b cs e, c.loc id = .at_ b row ∧ w.heap[b]? = some (.cells cs e (0, 0)) ∧ CR w c flat cs ∧ (fz = true ↔ c.fz b) ∧ c.base ≤ b ∧ RowAt w c flat ⟨b, 0, none⟩ := by
  have hB := H.blk id _ hb
  simp only [BR] at hB
  split at hB
  · exact hB.elim
  · rename_i hl; exact .inl ⟨hl, hB⟩
  · rename_i b r hl
    obtain ⟨rfl, h2, h3, cs, e, h4, h5⟩ := hB
    exact .inr ⟨b, cs, e, hl, h4, h5, h3, h2, h5.row h4⟩

theorem findNow_ok {k : Int} {kk : IntKind} : ∀ (es : List (Int × AV)) (ents : List MapEntry) (i : Nat), MR w c es ents →
    ∃ r, Instr.findNow (.int kk) (.int .i64 k) ents i = some r ∧ (match findK k es with | some v => ∃ j x, r = some (j, x) ∧ VR w c v x | none => r = none) := by
  intro es
  induction es with
  | nil =>
    intro ents i h
    obtain rfl : ents = [] := List.eq_nil_of_length_eq_zero h.1.symm
    exact ⟨none, rfl, rfl⟩
  | cons p es ih =>
    intro ents i h
    obtain ⟨j, u⟩ := p
    cases ents with
    | nil => have := h.1; simp at this
    | cons e ents =>
      obtain ⟨e', he, hk, hv⟩ := h.2 0 j u rfl
      simp only [List.getElem?_cons_zero, Option.some.injEq] at he
      subst he
      simp only [Instr.findNow, hk, Instr.sameNow, if_true, findK]
      by_cases hkj : k = j
      · subst hkj
        simp only [beq_self_eq_true, if_true]
        exact ⟨_, rfl, i, _, rfl, hv⟩
      · have : (k == j) = false := by simpa using hkj
        simp only [this, hkj, if_false]
        exact ih ents (i + 1) ⟨by have := h.1; simpa using this, fun n a b hn => by simpa using h.2 (n + 1) a b (by simpa using hn)⟩

theorem run_checkKey {kt : TypeId} {kk : IntKind} (hk : P.underlying kt = some (.int kk)) (b : Bool) (k : Int) : ∀ n, (Instr.checkKey b (n + 1) kt (.int .i64 k)).run P w = .ok () w := by
  intro n
  simp [Instr.checkKey, run_underlying hk]

theorem HR.map (H : HR w c h) {id : Nat} {fz : Bool} {es : List (Int × AV)} (hb : h.bl id = some (.mp fz es)) : ∃ b ents clk, c.loc id = .at_ b false ∧ c.base ≤ b ∧ (fz = true ↔ c.fz b) ∧ w.heap[b]? = some (.map ents clk) ∧ MR w c es ents.toList := by
  obtain ⟨b, h1, h2, h3, ents, clk, h4, h5⟩ := H.blk id _ hb
  exact ⟨b, ents, clk, h1, h2, h3, h4, h5.1⟩
theorem HR.mapZ (H : HR w c h) {id : Nat} {fz : Bool} {es : List (Int × AV)} (hb : h.bl id = some (.mp fz es)) : ∃ b ents clk, c.loc id = .at_ b false ∧ c.base ≤ b ∧ (fz = true ↔ c.fz b) ∧ w.heap[b]? = some (.map ents clk) ∧ MR w c es ents.toList ∧ BornOk ents.toList clk := by
  obtain ⟨b, h1, h2, h3, ents, clk, h4, h5⟩ := H.blk id _ hb
  exact ⟨b, ents, clk, h1, h2, h3, h4, h5⟩
theorem HR.mapB (H : HR w c h) {id : Nat} {es : List (Int × AV)} (hb : h.bl id = some (.mp false es)) : ∃ b ents clk, c.loc id = .at_ b false ∧ c.base ≤ b ∧ ¬ c.fz b ∧ w.heap[b]? = some (.map ents clk) ∧ MR w c es ents.toList ∧ BornOk ents.toList clk := by
  obtain ⟨b, h1, h2, h3, ents, clk, h4, h5⟩ := H.blk id _ hb
  exact ⟨b, ents, clk, h1, h2, (fun hf => by cases h3.2 hf), h4, h5⟩
theorem run_getObj_map {b : Nat} {ents : Array MapEntry} {clk : Nat} (hb : w.heap[b]? = some (.map ents clk)) : (getObj b).run P w = .ok (.map ents clk) w := by
  simp [getObj, Sem.run, hb]

theorem VR.mv_inv {ks : List Int} {vs : List AV} {x : Value} (h : VR w c (.mv ks vs) x) : ∃ r ents clk, x = .map (some r) ∧ c.fz r ∧ w.heap[r]? = some (.map ents clk) ∧ MR w c (ks.zip vs) ents.toList ∧ BornOk ents.toList clk := by
  cases h with
  | mv _ _ r ents clk hfz hb hl hk hkk hbo hv =>
    refine ⟨r, ents, clk, rfl, hfz, hb, ⟨?_, ?_⟩, hbo⟩
    · rw [List.length_zip, hk, List.length_map, Array.length_toList, hl, Nat.min_self]
    · intro j k v hj
      rw [List.getElem?_zip_eq_some] at hj
      obtain ⟨h1, h2⟩ := hj
      rw [hk, List.getElem?_map] at h1
      obtain ⟨e, he, hke⟩ := Option.map_eq_some_iff.1 h1
      obtain ⟨n, hn⟩ := hkk e (List.mem_of_getElem? he)
      rw [hn] at hke
      refine ⟨e, he, by rw [hn]; simpa using hke, ?_⟩
      have := hv j v h2
      rw [Array.getElem?_toList] at he
      rwa [Array.getD_eq_getD_getElem?, he] at this
theorem MR.mv {es : List (Int × AV)} {ents : Array MapEntry} (h : MR w c es ents.toList) {r clk : Nat} (hb : w.heap[r]? = some (.map ents clk)) (hfz : c.fz r) (hbo : BornOk ents.toList clk) : VR w c (.mv (es.map (·.1)) (es.map (·.2))) (.map (some r)) := by
  have hlen := h.1
  have hget : ∀ (j : Nat) (e : MapEntry), ents.toList[j]? = some e → ∃ k v, es[j]? = some (k, v) ∧ e.key = .int .i64 k ∧ VR w c v e.val := by
    intro j e he
    have hlt : j < es.length := by rw [hlen]; exact (List.getElem?_eq_some_iff.1 he).1
    obtain ⟨e', h1, h2, h3⟩ := h.2 j es[j].1 es[j].2 (by rw [List.getElem?_eq_getElem hlt])
    rw [he] at h1
    cases h1
    exact ⟨_, _, List.getElem?_eq_getElem hlt, h2, h3⟩
  refine .mv _ _ r ents clk hfz hb (by simpa using hlen) ?_ ?_ hbo ?_
  · refine List.ext_getElem? fun j => ?_
    rw [List.getElem?_map, List.getElem?_map]
    cases he : ents.toList[j]? with
    | none =>
      have : es[j]? = none := by rw [List.getElem?_eq_none_iff] at he ⊢; omega
      rw [this]; rfl
    | some e =>
      obtain ⟨k, v, h1, h2, _⟩ := hget j e he
      rw [h1]; simp [h2]
  · intro e he
    obtain ⟨j, hj⟩ := List.getElem?_of_mem he
    obtain ⟨k, v, _, h2, _⟩ := hget j e hj
    exact ⟨k, h2⟩
  · intro j x hj
    rw [List.getElem?_map] at hj
    obtain ⟨p, hp, rfl⟩ := Option.map_eq_some_iff.1 hj
    obtain ⟨e, h1, h2, h3⟩ := h.2 j p.1 p.2 hp
    rw [Array.getElem?_toList] at h1
    rw [Array.getD_eq_getD_getElem?, h1]
    exact h3
theorem lookup_ok {o : Oper} {σ : Operand → Value} {t kt et : TypeId} {m k : Operand} {ok : Bool} {r clk : Nat} {ents : Array MapEntry} {es : List (Int × AV)} {n : Int} {kk : IntKind} {z v : AV}
    (hop : o.op = .lookup t m k ok) (hu : P.underlying t = some (.map kt et)) (hMv : σ m = .map (some r)) (hKv : σ k = .int .i64 n) (hb : w.heap[r]? = some (.map ents clk)) (hm : MR w c es ents.toList)
    (hz : izero P et = some z) (hkt : P.underlying kt = some (.int kk)) (hc : z.cells.all AV.isCell = true)
    (hv : (some (if ok then .tup [(match findK n es with | some v => (v, true) | none => (z, false)).1, .bool (match findK n es with | some v => (v, true) | none => (z, false)).2] else (match findK n es with | some v => (v, true) | none => (z, false)).1) : Option AV) = some v) :
    ∃ x, (execOp σ o).run P w = .ok (.value x) w ∧ VR w c v x := by
  obtain ⟨Z, hZ, hzz⟩ := izero_inv hz
  obtain ⟨q, hq, hfind⟩ := findNow_ok (k := n) (kk := kk) es ents.toList 0 hm
  have hrun : ∀ (x : Value) (bb : Bool), (match q with | some (_, v) => (v, true) | none => (Z, false)) = (x, bb) → (execOp σ o).run P w = .ok (.value (if ok then .tuple #[x, .bool bb] else x)) w := by
    intro x bb hx
    simp only [execOp, hop, Instr.lookup, Sem.run_bind, run_underlying hu, Result.andThen_ok, hMv, hKv, run_getObj_map hb, Sem.run_pure, run_checkKey hkt _ n 9999, Instr.findKey, run_underlying hkt, hq]
    cases q with
    | none => cases hx; simp [hZ]
    | some p => cases hx; simp
  cases hf : findK n es with
  | none =>
    simp only [hf] at hfind
    subst hfind
    simp only [hf, Option.some.injEq] at hv
    refine ⟨_, hrun Z false rfl, ?_⟩
    have hzv : VR w c z Z := by rw [← hzz]; exact avc_ok (by rw [hzz]; exact hc)
    subst hv
    cases ok
    · exact hzv
    · refine .tup _ _ (by simp) (fun j x hj => ?_)
      cases j with
      | zero => simp at hj; subst hj; exact hzv
      | succ j => cases j with
        | zero => simp at hj; subst hj; exact .bool _
        | succ j => simp at hj
  | some u =>
    simp only [hf] at hfind
    obtain ⟨j, x, rfl, hx⟩ := hfind
    simp only [hf, Option.some.injEq] at hv
    refine ⟨_, hrun x true rfl, ?_⟩
    subst hv
    cases ok
    · exact hx
    · refine .tup _ _ (by simp) (fun j y hj => ?_)
      cases j with
      | zero => simp at hj; subst hj; exact hx
      | succ j => cases j with
        | zero => simp at hj; subst hj; exact .bool _
        | succ j => simp at hj

theorem opRead_ok (H : HR w c h) {o : Oper} {ρ : Operand → AV} {σ : Operand → Value} (hρ : ∀ x, VR w c (ρ x) (σ x)) {lim : Option Nat} {v : AV} (hv : opRead P o.op ρ h lim = some v) :
    ∃ x, (execOp σ o).run P w = .ok (.value x) w ∧ VR w c v x := by
  revert hv
  generalize hop : o.op = op
  intro hv
  cases op with
  | load t p =>
    simp only [opRead] at hv
    have hp := hρ p
    split at hv
    · rename_i cs e
      rw [e] at hp
      obtain ⟨a, ha, hr⟩ := hp.pp_row
      obtain ⟨x, h1, h2⟩ := hr.load hv
      refine ⟨x, ?_, h2⟩
      have : a.add 0 = a := rfl
      rw [this] at h1
      simp [execOp, hop, Instr.loadAt, ha, Instr.sureAddr, h1]
    · rename_i id off e
      rw [e] at hp
      obtain ⟨flat, hf, hv⟩ := Option.bind_eq_some_iff.1 hv
      simp only [rd] at hf
      split at hf
      · rename_i fz row fl hb
        split at hf
        · cases hf
          obtain ⟨hid, a, ha, hat⟩ := hp.ptr_inv
          rcases H.read hb with ⟨_, rfl, _⟩ | ⟨b, cs, et, hl, h4, h5, h6, h7, hr⟩
          · simp only [loadA, partA] at hv
            split at hv
            · rename_i d n hd hn
              by_cases hg : aggD d = true
              · rw [if_pos hg] at hv
                split at hv
                · rename_i hle
                  cases hv
                  simp only [List.length_nil, Nat.le_zero_eq] at hle
                  have hn0 : n = 0 := by omega
                  subst hn0
                  refine ⟨.agg #[], ?_, .agg _ _ (by simp) (by simp) (by simp)⟩
                  simp [execOp, hop, Instr.loadAt, ha, Instr.sureAddr, loadVar, run_isAgg hd, hg, run_size hn, loadCells, loadCellsFrom]
                · cases hv
              · rw [if_neg hg] at hv; simp at hv
            · cases hv
          · obtain ⟨x, h1, h2⟩ := hr.load hv
            refine ⟨x, ?_, h2⟩
            rw [add_lit, Nat.zero_add] at h1
            simp [execOp, hop, Instr.loadAt, ha, hat b row hl, Instr.sureAddr, h1]
        · cases hf
      · cases hf
    · cases hv
  | slice t x lo hi mx =>
    cases mx with
    | some m => simp [opRead] at hv
    | none =>
    simp only [opRead] at hv
    split at hv
    · rename_i n e id off hu ex
      obtain ⟨b, hb, hv⟩ := Option.bind_eq_some_iff.1 hv
      obtain ⟨a, ha, hv⟩ := Option.bind_eq_some_iff.1 hv
      split at hv
      · rename_i sz fz flat hsz hbl
        split at hv
        · rename_i hcond
          cases hv
          have hx := hρ x
          rw [ex] at hx
          obtain ⟨hid, ad, hX, hat⟩ := hx.ptr_inv
          obtain ⟨b1, b2, b3⟩ := bounds_ok (P := P) hρ hb ha false n (Nat.le_refl _)
          refine ⟨.slice (some (if n = a then ad else ad.add (a * sz))) (b - a) (n - a), ?_, .sl _ _ _ _ _ hid ⟨_, _, rfl, by omega, by omega, (fun hn => by cases hn), ?_, ?_⟩⟩
          · simp [execOp, hop, Instr.sliceAt, run_underlying hu, hX, Instr.sureAddr, b3, run_size hsz]
          · intro hl
            rcases H.read hbl with ⟨_, hf, hr⟩ | ⟨bb, cs, et, hl', _⟩
            · cases hr
            · rw [hl'] at hl; cases hl
          · intro bb row hl hc
            rcases H.read hbl with ⟨hl', _⟩ | ⟨bb', cs, et, hl', h4, h5, h6, h7, hr⟩
            · rw [hl] at hl'; cases hl'
            · rw [hl] at hl'
              cases hl'
              have hne : ¬ n = a := by
                rcases hc with hc | ⟨hc, _⟩
                · omega
                · cases hc
              rw [if_neg hne, hat _ _ hl, add_lit]
              have hle := h5.1
              have hcs : csize w bb = cs.size := by simp [csize, h4]
              have : off + a * sz + (n - a) * sz = off + n * sz := by
                rw [Nat.add_assoc, ← Nat.add_mul]
                have : a + (n - a) = n := by omega
                rw [this]
              exact ⟨rfl, by rw [hcs, this]; omega, fun h => by cases h⟩
        · cases hv
      · cases hv
    · cases hv
  | lookup t m k ok =>
    simp only [opRead] at hv
    split at hv
    · rename_i kt et id n hu em ek
      split at hv
      · rename_i fz es z kk hbl hz hkt
        split at hv
        case isFalse => cases hv
        case isTrue hc =>
        obtain ⟨b, ents, clk, hl, _, _, hb, hm⟩ := H.map hbl
        have hM := hρ m
        rw [em] at hM
        obtain ⟨hid, r, hMv, hr⟩ := hM.mp_inv
        have hK := hρ k
        rw [ek] at hK
        obtain rfl := hr b false hl
        exact lookup_ok hop hu hMv hK.int_inv hb hm hz hkt hc.2 hv
      · cases hv
    · rename_i kt et ks vs n hu em ek
      split at hv
      · rename_i z kk hz hkt
        split at hv
        case isFalse => cases hv
        case isTrue hc =>
        have hM := hρ m
        rw [em] at hM
        obtain ⟨r, ents, clk, hMv, _, hb, hm, _⟩ := hM.mv_inv
        have hK := hρ k
        rw [ek] at hK
        exact lookup_ok hop hu hMv hK.int_inv hb hm hz hkt hc hv
      · cases hv
    · cases hv
  | call cl =>
    obtain ⟨callee, args, argTypes⟩ := cl
    cases callee with
    | value f => simp [opRead] at hv
    | invoke r m => simp [opRead] at hv
    | builtin b =>
      cases b with
      | len =>
        simp only [opRead] at hv
        split at hv
        · rename_i kt et id hu hx
          split at hv
          · rename_i fz es hbl
            split at hv
            case isFalse => cases hv
            case isTrue hc =>
            cases hv
            obtain ⟨b, ents, clk, hl, _, _, hb, hm⟩ := H.map hbl
            obtain ⟨t, ht, hu⟩ := Option.bind_eq_some_iff.1 hu
            obtain ⟨x, hx, ex⟩ := Option.map_eq_some_iff.1 hx
            have hX := hρ x
            rw [ex] at hX
            obtain ⟨hid, r, hXv, hr⟩ := hX.mp_inv
            obtain rfl := hr b false hl
            refine ⟨.int .i64 ents.size, ?_, ?_⟩
            · simp [execOp, hop, resolve, invoke, builtin, Builtin.len_, ht, hx, hXv, run_underlying hu, goInt, run_getObj_map hb]
            · have : (es.length : Int) = (ents.size : Int) := by rw [hm.1]; simp
              rw [this]
              exact .int _ _
          · cases hv
        · cases hv
      | _ => simp [opRead] at hv
  | _ => simp [opRead] at hv

end Go.Am

