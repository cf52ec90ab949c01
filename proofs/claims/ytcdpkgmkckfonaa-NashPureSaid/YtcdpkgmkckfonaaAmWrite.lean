/-
  Operations that write.
-/
import Derived.Test.YtcdpkgmkckfonaaAmNew
import Derived.Maps.AppendAt
set_option linter.unusedVariables false
set_option linter.unusedSimpArgs false
namespace Go.Am
open Go Go.RowKit

variable {P : Program} {w : World} {c : Ctx} {h : Hp}

/-- A row's cells from 'off' on are replaced. -/
def putRow (cs : Array Value) (off : Nat) (X : List Value) : Array Value := (cs.toList.take off ++ X ++ cs.toList.drop (off + X.length)).toArray

theorem putRow_size {cs : Array Value} {off : Nat} {X : List Value} (hle : off + X.length ≤ cs.size) : (putRow cs off X).size = cs.size := by
  simp [putRow]; omega
theorem putRow_get {cs : Array Value} {off : Nat} {X : List Value} (hle : off + X.length ≤ cs.size) (j : Nat) : (putRow cs off X)[j]? = if off ≤ j ∧ j < off + X.length then X[j - off]? else cs[j]? := by
  simp only [putRow, List.getElem?_toArray]
  by_cases h1 : j < off
  · rw [List.append_assoc, List.getElem?_append_left (by simp; omega), List.getElem?_take, if_pos h1, if_neg (by omega)]
    simp
  · by_cases h2 : j < off + X.length
    · rw [if_pos (by omega), List.getElem?_append_left (by simp; omega), List.getElem?_append_right (by simp; omega)]
      congr 1
      simp; omega
    · rw [if_neg (by omega), List.getElem?_append_right (by simp; omega), List.getElem?_drop]
      rw [Array.getElem?_toList]
      congr 1
      simp; omega

theorem CR.put {flat : List AV} {cs : Array Value} (hc : CR w c flat cs) {xs : List AV} {X : Array Value} (hx : CRel w c xs X) {off : Nat} (hle : off + xs.length ≤ flat.length) : CR w c (setL flat off xs) (putRow cs off X.toList) := by
  have hX : X.toList.length = xs.length := by simp [hx.1]
  have h1 := hc.1
  have hle' : off + X.toList.length ≤ cs.size := by omega
  obtain ⟨s1, s2⟩ := setL_get xs flat off hle
  refine ⟨by rw [s1, putRow_size hle']; exact h1, ?_⟩
  intro j y hj
  rw [s2 j] at hj
  rw [Array.getD_eq_getD_getElem?, putRow_get hle' j]
  split at hj
  · rename_i hr
    rw [if_pos (by omega)]
    have := hx.2.2 _ y hj
    rw [Array.getD_eq_getD_getElem?] at this
    exact ⟨hx.2.1 y (List.mem_of_getElem? hj), by simpa using this⟩
  · rename_i hr
    rw [if_neg (by omega)]
    have := hc.2 j y hj
    rw [Array.getD_eq_getD_getElem?] at this
    exact this

/-- A block that changes: the others don't. -/
theorem HR.change (H : HR w c h) {w' : World} {id b : Nat} {r : Bool} (hl : c.loc id = .at_ b r) (hnf : ¬ c.fz b) (hbase : c.base ≤ b)
    (hw : w'.os = w.os ∧ w'.tape = w.tape ∧ w'.output = w.output ∧ w'.heap.size = w.heap.size) (ho : ∀ k, k ≠ b → w'.heap[k]? = w.heap[k]?) (hcs : csize w' b = csize w b) (blk : Blk) (hB : Ext w c w' c → BR w' c (.at_ b r) blk) :
    Ext w c w' c ∧ HR w' c (h.put id (some blk)) := by
  have E : Ext w c w' c := by
    refine ⟨rfl, Nat.le_refl _, ⟨hw.1, hw.2.1, hw.2.2.1, Nat.le_of_eq hw.2.2.2.symm, fun k hk => ho k (by omega)⟩, fun _ hb => hb, fun k hk => ho k (fun e => hnf (e ▸ hk)), fun _ _ => .inl rfl, ?_, fun _ hf => .inl hf, rfl, fun k hp => ho k (fun e => (H.priv k hp).2.2 id r (e ▸ hl))⟩
    intro i k row hi hk
    by_cases he : k = b
    · subst he; exact hcs
    · simp only [csize, ho k he]
  refine ⟨E, H.nx, ?_, ?_, ?_, H.inj, ?_, by rw [hw.2.2.2]; exact H.base, fun k hp => ⟨by rw [hw.2.2.2]; exact (H.priv k hp).1, (H.priv k hp).2⟩⟩
  · intro j hj
    simp only [Hp.put] at hj
    split at hj
    · cases hj
    · exact H.dead j hj
  · intro j hj
    simp only [Hp.put] at hj ⊢
    split
    · rename_i he
      subst he
      obtain ⟨_, hb', _⟩ := H.at hl
      rw [H.hi j hj] at hb'; cases hb'
    · exact H.hi j hj
  · intro j blk' hbl
    simp only [Hp.put] at hbl
    split at hbl
    · rename_i he
      cases hbl
      subst he
      rw [hl]
      exact hB E
    · rename_i hne
      refine (H.blk j blk' hbl).mono E ?_ (fun _ _ _ => Iff.rfl)
      intro n r' hn
      refine ho n ?_
      rintro rfl
      exact hne (H.inj j id n r' r hn hl)
  · intro k hk
    rw [hw.2.2.2]; exact H.fzlt k hk

theorem HR.store (H : HR w c h) {id b : Nat} {row : Bool} {flat : List AV} {cs : Array Value} {e : TypeId} (hl : c.loc id = .at_ b row) (hbl : h.bl id = some (.cells false row flat)) (hb : w.heap[b]? = some (.cells cs e (0, 0)))
    (hc : CR w c flat cs) {xs : List AV} {X : Array Value} (hx : CRel w c xs X) {off : Nat} (hle : off + xs.length ≤ flat.length) :
    Ext w c (w.setRow b (putRow cs off X.toList)) c ∧ HR (w.setRow b (putRow cs off X.toList)) c (h.put id (some (.cells false row (setL flat off xs)))) ∧
      (∀ (P : Program), (storeCells ⟨b, off, none⟩ X.toList).run P w = .ok () (w.setRow b (putRow cs off X.toList))) := by
  have hX : X.toList.length = xs.length := by simp [hx.1]
  have h1 := hc.1
  have hle' : off + X.toList.length ≤ cs.size := by omega
  rcases H.read hbl with ⟨hl', _⟩ | ⟨b', cs', e', hl', h4, h5, h6, h7, _⟩
  · rw [hl] at hl'; cases hl'
  rw [hl] at hl'
  cases hl'
  have hcell : ∀ v ∈ X.toList, v.oneCell' = true := by
    intro v hv
    obtain ⟨j, hj⟩ := List.mem_iff_getElem?.1 hv
    have hjl : j < xs.length := by rw [← hX]; exact (List.getElem?_eq_some_iff.1 hj).1
    obtain ⟨u, hu, hr, hcl⟩ := hx.get (List.getElem?_eq_getElem hjl)
    rw [Array.getElem?_toList, hu] at hj
    cases hj
    exact hr.oneCell hcl
  obtain ⟨E, H'⟩ := H.change (w' := w.setRow b (putRow cs off X.toList)) hl (fun hf => by have := h6.2 hf; cases this) h7 ⟨rfl, rfl, rfl, by simp⟩ (fun k hk => setRow_other w b k _ hk) (by
    simp only [csize, setRow_heap w b cs _ e (0, 0) hb, hb, putRow_size hle']) (.cells false row (setL flat off xs)) (fun E => ⟨rfl, h7, h6, _, _, setRow_heap w b cs _ e (0, 0) hb, (hc.put hx hle).mono E⟩)
  refine ⟨E, H', fun P => ?_⟩
  have := run_storeCells_at P b off e X.toList 0 cs w hb (by omega) hcell
  simpa [putRow] using this

def NextOk (w : World) (c : Ctx) (v : AV) (n : Next) : Prop := (∃ x, n = .value x ∧ VR w c v x) ∨ (n = .skip ∧ v = .skp)

theorem BornOk.modify {ents : List MapEntry} {clk : Nat} (h : BornOk ents clk) (j : Nat) (f : MapEntry → MapEntry) (hf : ∀ e, (f e).born = e.born) : BornOk (ents.modify j f) clk := by
  have e : ∀ (l : List MapEntry) (j : Nat), (l.modify j f).map (·.born) = l.map (·.born) := by
    intro l
    induction l with
    | nil => intro j; cases j <;> rfl
    | cons x l ih =>
      intro j
      cases j with
      | zero => simp [List.modify_zero_cons, hf]
      | succ j => simp [List.modify_succ_cons, ih]
  refine ⟨by rw [e]; exact h.1, fun x hx => ?_⟩
  have : x.born ∈ (ents.modify j f).map (·.born) := List.mem_map.2 ⟨x, hx, rfl⟩
  rw [e] at this
  obtain ⟨y, hy, hxy⟩ := List.mem_map.1 this
  rw [← hxy]; exact h.2 y hy
theorem BornOk.push {ents : List MapEntry} {clk : Nat} (h : BornOk ents clk) (x : MapEntry) (hx : x.born = clk) : BornOk (ents ++ [x]) (clk + 1) := by
  refine ⟨?_, fun y hy => ?_⟩
  · rw [List.map_append, List.nodup_append]
    refine ⟨h.1, by simp, fun a ha b hb => ?_⟩
    obtain ⟨y, hy, rfl⟩ := List.mem_map.1 ha
    simp at hb
    subst hb
    have := h.2 y hy
    omega
  · rcases List.mem_append.1 hy with h1 | h1
    · have := h.2 y h1; omega
    · simp at h1; subst h1; omega
theorem putK_ok {k : Int} {v : AV} {x : Value} (hx : VR w c v x) {kk : IntKind} : ∀ (es : List (Int × AV)) (ents : List MapEntry) (i clk : Nat), MR w c es ents →
    (∃ j q, Instr.findNow (.int kk) (.int .i64 k) ents i = some (some (i + j, q)) ∧ ∃ e, ents[j]? = some e ∧ e.key = .int .i64 k ∧ MR w c (putK k v es) (ents.modify j fun e => { e with key := .int .i64 k, val := x })) ∨
    (Instr.findNow (.int kk) (.int .i64 k) ents i = some none ∧ MR w c (putK k v es) (ents ++ [{ key := .int .i64 k, val := x, born := clk }])) := by
  intro es
  induction es with
  | nil =>
    intro ents i clk h
    obtain rfl : ents = [] := List.eq_nil_of_length_eq_zero h.1.symm
    refine .inr ⟨rfl, by simp [putK], ?_⟩
    intro j k' v' hj
    cases j with
    | zero => simp [putK] at hj; obtain ⟨rfl, rfl⟩ := hj; exact ⟨_, rfl, rfl, hx⟩
    | succ j => simp [putK] at hj
  | cons p es ih =>
    intro ents i clk h
    obtain ⟨j0, u⟩ := p
    cases ents with
    | nil => have := h.1; simp at this
    | cons e ents =>
      obtain ⟨e', he, hk, hv⟩ := h.2 0 j0 u rfl
      simp only [List.getElem?_cons_zero, Option.some.injEq] at he
      subst he
      have ht : MR w c es ents := ⟨by have := h.1; simpa using this, fun n a b hn => by simpa using h.2 (n + 1) a b (by simpa using hn)⟩
      simp only [Instr.findNow, hk, Instr.sameNow, if_true, putK]
      by_cases hkj : k = j0
      · subst hkj
        left
        refine ⟨0, e.val, by simp, e, rfl, hk, ?_⟩
        simp only [if_true, List.modify_zero_cons]
        refine ⟨by simp [ht.1], ?_⟩
        intro j k' v' hj
        cases j with
        | zero => simp at hj; obtain ⟨rfl, rfl⟩ := hj; exact ⟨_, rfl, rfl, hx⟩
        | succ j => simp at hj; simpa using ht.2 j k' v' hj
      · have hne : (k == j0) = false := by simpa using hkj
        simp only [hne, hkj, if_false]
        have lift : ∀ ents', MR w c (putK k v es) ents' → MR w c ((j0, u) :: putK k v es) (e :: ents') := by
          intro ents' hm
          refine ⟨by simp [hm.1], ?_⟩
          intro j k' v' hj
          cases j with
          | zero => simp at hj; obtain ⟨rfl, rfl⟩ := hj; exact ⟨e, rfl, hk, hv⟩
          | succ j => simp at hj; simpa using hm.2 j k' v' hj
        rcases ih ents (i + 1) clk ht with ⟨j, q, h1, e1, h2, h3, h4⟩ | ⟨h1, h2⟩
        · left
          refine ⟨j + 1, q, by rw [h1]; congr 3; omega, e1, by simpa using h2, h3, ?_⟩
          simp only [List.modify_succ_cons]
          exact lift _ h4
        · right
          exact ⟨h1, lift _ h2⟩

theorem sameBits_int (k : Int) : Instr.sameBits 10000 (.int .i64 k) (.int .i64 k) = true := by
  unfold Instr.sameBits
  simp

/-- What a slice that is read holds. -/
theorem cellsOf_ok (H : HR w c h) {v : AV} {x : Value} (hv : VR w c v x) {ys : List AV} {m : Nat} (hc : cellsOf h none v = some ys) (hl : lenA v = some m) :
    ∃ A cap, x = .slice A m cap ∧ (ys = [] ∨ ∃ a, A = some a ∧ RowAt w c ys a) := by
  cases v with
  | nil => simp only [cellsOf, Option.some.injEq] at hc; simp only [lenA, Option.some.injEq] at hl; subst hc; subst hl; exact ⟨none, 0, hv.nil_inv, .inl rfl⟩
  | lst xs =>
    simp only [cellsOf, Option.some.injEq] at hc
    simp only [lenA, Option.some.injEq] at hl
    subst hc; subst hl
    obtain ⟨A, cap, rfl, _⟩ := hv.lst_len
    exact ⟨A, cap, rfl, hv.lst_row⟩
  | sl id off n sz =>
    simp only [cellsOf] at hc
    simp only [lenA, Option.some.injEq] at hl
    subst hl
    obtain ⟨flat, hf, hc⟩ := Option.bind_eq_some_iff.1 hc
    split at hc
    · rename_i hle
      cases hc
      simp only [rd, lims, if_true] at hf
      split at hf
      · rename_i fz row fl hb
        simp only [if_true, Option.some.injEq] at hf
        subst hf
        obtain ⟨hid, A, cap, rfl, g1, g2, g3, g4, g5⟩ := hv.sl_inv
        refine ⟨A, cap, rfl, ?_⟩
        by_cases hz : n * sz = 0
        · left; simp [hz]
        · right
          rcases H.read hb with ⟨hl, rfl, _⟩ | ⟨b, cs, e, hl, h4, h5, h6, h7, hr⟩
          · simp only [List.length_nil] at hle; omega
          · have hn : 0 < n := Nat.pos_of_ne_zero (by rintro rfl; simp at hz)
            obtain ⟨q1, _⟩ := g5 b row hl (.inl (by omega))
            subst q1
            refine ⟨_, rfl, ?_⟩
            have := hr.drop off
            rw [add_lit, Nat.zero_add] at this
            intro j y hj
            rw [List.getElem?_take] at hj
            split at hj
            · exact this j y hj
            · cases hj
      · cases hf
    · cases hc
  | _ => simp [cellsOf] at hc

theorem RowAt.values {ys : List AV} {a : Addr} (hr : RowAt w c ys a) : ∃ news : List Value, news.length = ys.length ∧ (∀ j u, news[j]? = some u → w.cell? (a.add j) = some u) ∧ (∀ u ∈ news, u.oneCell' = true) ∧ CRel w c ys news.toArray := by
  obtain ⟨f, f1, f2⟩ := hr.cells ys.length (Nat.le_refl _)
  rw [List.take_length] at f2
  refine ⟨(List.range ys.length).map f, by simp, ?_, ?_, f2⟩
  · intro j u hj
    simp only [List.getElem?_map, Option.map_eq_some_iff] at hj
    obtain ⟨k, hk, rfl⟩ := hj
    obtain ⟨hlt, rfl⟩ := List.getElem?_eq_some_iff.1 hk
    simp only [List.length_range] at hlt
    simpa using f1 j hlt
  · intro u hu
    obtain ⟨j, hj⟩ := List.mem_iff_getElem?.1 hu
    have hlt : j < ys.length := by have := (List.getElem?_eq_some_iff.1 hj).1; simpa using this
    obtain ⟨v, h1, h2, h3⟩ := f2.get (List.getElem?_eq_getElem hlt)
    simp only [List.getElem?_toArray] at h1
    rw [h1] at hj
    cases hj
    exact h2.oneCell h3

theorem run_append_zero {t ty e : TypeId} {sz : Nat} (hu : P.underlying t = some (.slice e)) (hs : isz P e = some sz) (A A' : Option Addr) (n cap c' : Nat) (hn : n ≤ cap) :
    (Builtin.append_ #[t, t] ty #[.slice A n cap, .slice A' 0 c']).run P w = .ok (.slice A n cap) w := by
  have hf : (Builtin.firstCells sz 0 (.slice A' 0 c')).run P w = .ok #[] w := by
    cases A' <;> simp [Builtin.firstCells, loadCells, loadCellsFrom]
  have hne : (match P.underlying t with | some (.int _) => true | _ => false) = false := by rw [hu]
  cases A with
  | none => simp [Builtin.append_, run_underlying hu, run_size hs, Builtin.lenOf, hn, hf]
  | some a => simp [Builtin.append_, run_underlying hu, run_size hs, Builtin.lenOf, hn, hf, storeCells]

theorem HR.drew (H : HR w c h) : Ext w c w.drew c ∧ HR w.drew c h := by
  have E : Ext w c w.drew c := ⟨rfl, Nat.le_refl _, (Below.refl _ _).drew, fun _ hb => hb, fun _ _ => rfl, fun _ _ => .inl rfl, fun _ _ _ _ _ => rfl, fun _ hf => .inl hf, rfl, fun _ _ => rfl⟩
  exact ⟨E, H.nx, H.dead, H.hi, fun id b hb => (H.blk id b hb).mono E (fun _ _ _ => rfl) (fun _ _ _ => Iff.rfl), H.inj, H.fzlt, H.base, H.priv⟩

/-- A new row of cells, with spare ones. -/
theorem HR.newC (H : HR w c h) {flat : List AV} {cs : Array Value} (hr : CR w c flat cs) (e : TypeId) (row : Bool) :
    Ext w c (w.alloc (.cells cs e)) (c.push (.at_ w.heap.size row)) ∧ HR (w.alloc (.cells cs e)) (c.push (.at_ w.heap.size row)) (h.alloc (.cells false row flat)) ∧ (c.push (.at_ w.heap.size row)).loc h.nx = .at_ w.heap.size row ∧ csize (w.alloc (.cells cs e)) w.heap.size = cs.size := by
  have E := H.pushExt (below_alloc1 w (.cells cs e)) (.at_ w.heap.size row)
  refine ⟨E, H.push (below_alloc1 w _) _ _ ?_ (fun b r hb => by cases hb; exact Nat.le_refl _), ?_, ?_⟩
  · refine ⟨rfl, H.base, ⟨(fun h => by cases h), fun hf => ?_⟩, cs, e, alloc_new w _, hr.mono E⟩
    exact absurd (H.fzlt _ hf) (Nat.lt_irrefl _)
  · simp only [Ctx.push]; rw [if_pos H.nx.symm]
  · simp only [csize, alloc_new]

def Ctx.kill (c : Ctx) (id : Nat) : Ctx := { c with loc := fun i => if i = id then .dead else c.loc i }
theorem HR.kill (H : HR w c h) (id : Nat) : Ext w c w (c.kill id) ∧ HR w (c.kill id) (h.put id none) := by
  have hloc : ∀ i, (c.kill id).loc i = c.loc i ∨ (c.kill id).loc i = .dead := by
    intro i; simp only [Ctx.kill]; split
    · exact .inr rfl
    · exact .inl rfl
  have E : Ext w c w (c.kill id) := ⟨rfl, Nat.le_refl _, Below.refl _ _, fun _ hb => hb, fun _ _ => rfl, fun i _ => hloc i, fun _ _ _ _ _ => rfl, fun _ hf => .inl hf, rfl, fun _ _ => rfl⟩
  refine ⟨E, H.nx, ?_, ?_, ?_, ?_, H.fzlt, H.base, fun b hp => ⟨(H.priv b hp).1, (H.priv b hp).2.1, fun i r he => by
    rcases hloc i with e | e
    · rw [e] at he; exact (H.priv b hp).2.2 i r he
    · rw [e] at he; cases he⟩⟩
  · intro j hj
    simp only [Hp.put] at hj
    simp only [Ctx.kill]
    split
    · rfl
    · rename_i hne; rw [if_neg hne] at hj; exact H.dead j hj
  · intro j hj
    simp only [Hp.put] at hj ⊢
    split
    · rfl
    · exact H.hi j hj
  · intro j b hb
    simp only [Hp.put] at hb
    split at hb
    · cases hb
    · rename_i hne
      have : (c.kill id).loc j = c.loc j := by simp only [Ctx.kill]; rw [if_neg hne]
      rw [this]
      exact (H.blk j b hb).mono E (fun _ _ _ => rfl) (fun _ _ _ => Iff.rfl)
  · intro i j b r s hi hj
    have h1 : c.loc i = .at_ b r := by
      rcases hloc i with e | e
      · rw [← e]; exact hi
      · rw [e] at hi; cases hi
    have h2 : c.loc j = .at_ b s := by
      rcases hloc j with e | e
      · rw [← e]; exact hj
      · rw [e] at hj; cases hj
    exact H.inj i j b r s h1 h2

theorem alloc_bl (h : Hp) (b : Blk) (i : Nat) : (h.alloc b).bl i = if i = h.nx then some b else h.bl i := rfl
theorem put_bl (h : Hp) (id : Nat) (b : Option Blk) (i : Nat) : (h.put id b).bl i = if i = id then b else h.bl i := rfl
theorem put_nx (h : Hp) (id : Nat) (b : Option Blk) : (h.put id b).nx = h.nx := rfl
theorem alloc_nx (h : Hp) (b : Blk) : (h.alloc b).nx = h.nx + 1 := rfl

/-- A block under a new number. -/
theorem HR.rename (H : HR w c h) {id : Nat} {blk : Blk} (hb : h.bl id = some blk) : ∃ c', Ext w c w c' ∧ HR w c' ((h.put id none).alloc blk) ∧ c'.loc h.nx = c.loc id ∧ h.nx < c'.nx := by
  obtain ⟨E1, H1⟩ := H.kill id
  have hlt : id < c.nx := by
    rcases Nat.lt_or_ge id c.nx with h1 | h1
    · exact h1
    · rw [H.hi id (by have := H.nx; omega)] at hb; cases hb
  let c' := (c.kill id).push (c.loc id)
  have hloc : ∀ i, c'.loc i = if i = c.nx then c.loc id else if i = id then .dead else c.loc i := by
    intro i; rfl
  have E2 : Ext w c w c' := by
    refine ⟨rfl, by simp [c', Ctx.push, Ctx.kill], Below.refl _ _, fun _ hb => hb, fun _ _ => rfl, ?_, fun _ _ _ _ _ => rfl, fun _ hf => .inl hf, rfl, fun _ _ => rfl⟩
    intro i hi
    rw [hloc i, if_neg (by omega)]
    split
    · exact .inr rfl
    · exact .inl rfl
  have hnx := H.nx
  refine ⟨c', E2, ⟨by simp [c', Ctx.push, Ctx.kill, Hp.alloc, Hp.put, hnx], ?_, ?_, ?_, ?_, H.fzlt, H.base, fun b hp => ⟨(H.priv b hp).1, (H.priv b hp).2.1, fun i r he => by
    rw [hloc] at he
    split at he
    · exact (H.priv b hp).2.2 _ r he
    · split at he
      · cases he
      · exact (H.priv b hp).2.2 _ r he⟩⟩, by rw [hloc, if_pos hnx.symm], by simp [c', Ctx.push, Ctx.kill, hnx]⟩
  · intro j hj
    rw [alloc_bl, put_bl, put_nx] at hj
    rw [hloc]
    split at hj
    · cases hj
    · rw [if_neg (by omega)]
      split
      · rfl
      · rename_i h1; rw [if_neg h1] at hj; exact H.dead j hj
  · intro j hj
    rw [alloc_nx, put_nx] at hj
    rw [alloc_bl, put_bl, put_nx]
    rw [if_neg (by omega)]
    split
    · rfl
    · exact H.hi j (by omega)
  · intro j b hbl
    rw [alloc_bl, put_bl, put_nx] at hbl
    rw [hloc]
    split at hbl
    · rename_i hj
      cases hbl
      rw [if_pos (by omega)]
      exact (H.blk id blk hb).mono E2 (fun _ _ _ => rfl) (fun _ _ _ => Iff.rfl)
    · rw [if_neg (by omega)]
      split at hbl
      · cases hbl
      · rename_i h1
        rw [if_neg h1]
        exact (H.blk j b hbl).mono E2 (fun _ _ _ => rfl) (fun _ _ _ => Iff.rfl)
  · intro i j b r s hi hj
    rw [hloc] at hi hj
    have lt_of : ∀ {i b r}, c.loc i = .at_ b r → i < c.nx := fun hl => by obtain ⟨_, _, _, _, _, h⟩ := H.at hl; exact h
    split at hi
    · split at hj
      · omega
      · split at hj
        · cases hj
        · rename_i h1 h2 h3
          exact absurd (H.inj j id b s r hj hi) h3
    · split at hi
      · cases hi
      · split at hj
        · rename_i h1 h2 h3
          exact absurd (H.inj i id b r s hi hj) h2
        · split at hj
          · cases hj
          · exact H.inj i j b r s hi hj

theorem CR.append {flat ys : List AV} {cs : Array Value} (olds news : List Value) (zs : Array Value) (h1 : CRel w c flat olds.toArray) (h2 : CRel w c ys news.toArray) : CR w c (flat ++ ys) (olds.toArray ++ news.toArray ++ zs) := by
  have l1 := h1.1
  have l2 := h2.1
  simp only [List.size_toArray] at l1 l2
  refine ⟨by simp; omega, ?_⟩
  intro j x hj
  rw [Array.getD_eq_getD_getElem?]
  by_cases hlt : j < flat.length
  · rw [List.getElem?_append_left hlt] at hj
    rw [Array.getElem?_append_left (by simp; omega), Array.getElem?_append_left (by simp; omega)]
    have := h1.2.2 j x hj
    rw [Array.getD_eq_getD_getElem?] at this
    exact ⟨h1.2.1 x (List.mem_of_getElem? hj), this⟩
  · rw [List.getElem?_append_right (by omega)] at hj
    have hj' := (List.getElem?_eq_some_iff.1 hj).1
    rw [Array.getElem?_append_left (by simp; omega), Array.getElem?_append_right (by simp; omega)]
    have := h2.2.2 _ x hj
    rw [Array.getD_eq_getD_getElem?] at this
    refine ⟨h2.2.1 x (List.mem_of_getElem? hj), ?_⟩
    have e : j - olds.toArray.size = j - flat.length := by simp; omega
    rw [e]; exact this

theorem run_append_room' (t ty e e' : TypeId) {sz : Nat} (ht : P.underlying t = some (.slice e)) (hs : isz P e = some sz)
    (g sLen sCap : Nat) (cur : Array Value) (hg : w.heap[g]? = some (.cells cur e' (0, 0)))
    (a : Addr) (m c : Nat) (news : List Value) (hl : news.length = m * sz) (hnews : ∀ (j : Nat) u, news[j]? = some u → w.cell? (a.add j) = some u) (h1 : ∀ u ∈ news, u.oneCell' = true)
    (hroom : sLen + m ≤ sCap) (hfit : sLen * sz + news.length ≤ cur.size) :
    (Builtin.append_ #[t, t] ty #[.slice (some ⟨g, 0, none⟩) sLen sCap, .slice (some a) m c]).run P w = .ok (.slice (some ⟨g, 0, none⟩) (sLen + m) sCap) (w.setRow g (putRow cur (sLen * sz) news)) := by
  obtain ⟨i, hi, rfl⟩ := isz_info hs
  have hf := run_firstCells_some (P := P) w i.size m a m c news hl hnews
  have hst := run_storeCells_at P g (sLen * i.size) e' news 0 cur w hg (by simpa using hfit) h1
  simp only [Nat.add_zero] at hst
  simp [Builtin.append_, run_underlying ht, sizeOf, typeInfo, hi, Builtin.lenOf, hroom, hf, Addr.add_lit, hst, putRow]

theorem opWrite_ok (H : HR w c h) {o : Oper} {ρ : Operand → AV} {σ : Operand → Value} (hρ : ∀ x, VR w c (ρ x) (σ x)) {v : AV} {h' : Hp} (hv : opWrite P o.op ρ h = some (v, h')) :
    ∃ n w' c', (execOp σ o).run P w = .ok n w' ∧ Ext w c w' c' ∧ HR w' c' h' ∧ NextOk w' c' v n := by
  revert hv
  generalize hop : o.op = op
  intro hv
  cases op with
  | store t p x =>
    simp only [opWrite] at hv
    split at hv
    · rename_i id off sz ep hs
      split at hv
      · rename_i row flat hbl
        split at hv
        · rename_i hc
          obtain ⟨hlen, hle, hcell⟩ := hc
          cases hv
          have hp := hρ p
          rw [ep] at hp
          obtain ⟨hid, a, hpv, hat⟩ := hp.ptr_inv
          have hX := (hρ x).cellsRel (all_cells hcell)
          have hXs : (σ x).cells.size = sz := by rw [← hX.1]; exact hlen
          rcases H.read hbl with ⟨hl, rfl, _⟩ | ⟨b, cs, e, hl, h4, h5, h6, h7, _⟩
          · -- nothing is stored into nothing
            simp only [List.length_nil] at hle
            have hx0 : (ρ x).cells = [] := List.eq_nil_of_length_eq_zero (by omega)
            have hv0 : (σ x).cells.toList = [] := List.eq_nil_of_length_eq_zero (by rw [Array.length_toList]; omega)
            refine ⟨.skip, w, c, ?_, Ext.refl _ _, ?_, .inr ⟨rfl, rfl⟩⟩
            · simp [execOp, hop, Instr.storeAt, hpv, Instr.sureAddr, storeVar, run_size hs, hXs, hv0, storeCells]
            · have : h.put id (some (.cells false row (setL [] off (ρ x).cells))) = h := by
                rw [hx0]
                simp only [setL, Hp.put]
                cases h with
                | mk nx bl =>
                  congr 1
                  funext i
                  split
                  · rename_i hi; subst hi; exact hbl.symm
                  · rfl
              rw [this]; exact H
          · have hb := hat b row hl
            subst hb
            obtain ⟨E, H', hrun⟩ := H.store hl hbl h4 h5 hX (off := off) (by omega)
            refine ⟨.skip, _, c, ?_, E, H', .inr ⟨rfl, rfl⟩⟩
            simp [execOp, hop, Instr.storeAt, hpv, Instr.sureAddr, storeVar, run_size hs, hXs, hrun]
        · cases hv
      · cases hv
    · cases hv
  | mapUpdate t m k x =>
    simp only [opWrite] at hv
    split at hv
    · rename_i kt et id n hu em ek
      split at hv
      · rename_i fz es hbl hkt
        split at hv
        case isTrue => cases hv
        case isFalse hfz =>
          obtain rfl : fz = false := by simpa using hfz
          cases hv
          have hM := hρ m
          rw [em] at hM
          obtain ⟨hid, r, hMv, hr⟩ := hM.mp_inv
          have hK := hρ k
          rw [ek] at hK
          have hKv := hK.int_inv
          obtain ⟨b, ents, clk, hl, hbase, hnf, hb, hm, hbo⟩ := H.mapB hbl
          obtain rfl := hr b false hl
          have hlt : r < w.heap.size := (Array.getElem?_eq_some_iff.1 hb).1
          have chg : ∀ (ents' : Array MapEntry) (clk' : Nat), MR w c (putK n (ρ x) es) ents'.toList → BornOk ents'.toList clk' →
              Ext w c { w with heap := w.heap.setIfInBounds r (.map ents' clk') } c ∧ HR { w with heap := w.heap.setIfInBounds r (.map ents' clk') } c (h.put id (some (.mp false (putK n (ρ x) es)))) := by
            intro ents' clk' hm' hbo'
            refine H.change (w' := { w with heap := w.heap.setIfInBounds r (.map ents' clk') }) hl hnf hbase ⟨rfl, rfl, rfl, by simp⟩ (fun k hk => by simp [Array.getElem?_setIfInBounds, Ne.symm hk]) ?_ _ ?_
            · have h1 : (w.heap.setIfInBounds r (.map ents' clk'))[r]? = some (.map ents' clk') := by simp [Array.getElem?_setIfInBounds, hlt]
              simp only [csize, h1, hb]
            · intro E
              exact ⟨r, rfl, hbase, ⟨(fun hh => by cases hh), fun hh => absurd hh hnf⟩, ents', clk', by simp [Array.getElem?_setIfInBounds, hlt], hm'.mono E, hbo'⟩
          have hset : ∀ o, (setObj r o).run P w = .ok () { w with heap := w.heap.setIfInBounds r o } := by
            intro o; simp [setObj, Sem.run, hb]
          rcases putK_ok (w := w) (c := c) (k := n) (kk := .i64) (hρ x) es ents.toList 0 clk hm with ⟨j, q, h1, e1, h2, h3, h4⟩ | ⟨h1, h2⟩
          · rw [Nat.zero_add] at h1
            obtain ⟨E, H'⟩ := chg (ents.modify j fun e => { e with key := .int .i64 n, val := σ x }) clk (by rw [Array.toList_modify]; exact h4) (by rw [Array.toList_modify]; exact hbo.modify j _ fun _ => rfl)
            refine ⟨.skip, _, c, ?_, E, H', .inr ⟨rfl, rfl⟩⟩
            have hej : ents[j]? = some e1 := by rw [← Array.getElem?_toList]; exact h2
            have hstay : (Instr.keyThatStays (((ents[j]?).map (·.key)).getD (.int .i64 n)) (.int .i64 n)).run P w = .ok (.int .i64 n) w := by
              rw [hej]
              simp only [Option.map_some, Option.getD_some, h3, Instr.keyThatStays, sameBits_int, if_true, Sem.run_pure]
            simp only [execOp, hop, Instr.mapUpdate, Sem.run_bind, run_underlying hu, Result.andThen_ok, hMv, hKv, run_getObj_map hb, run_checkKey hkt false n 9999, Instr.findKey, run_underlying hkt, h1, Sem.run_pure, hstay, hset]
          · obtain ⟨E, H'⟩ := chg (ents.push { key := .int .i64 n, val := σ x, born := clk }) (clk + 1) (by rw [Array.toList_push]; exact h2) (by rw [Array.toList_push]; exact hbo.push _ rfl)
            refine ⟨.skip, _, c, ?_, E, H', .inr ⟨rfl, rfl⟩⟩
            simp only [execOp, hop, Instr.mapUpdate, Sem.run_bind, run_underlying hu, Result.andThen_ok, hMv, hKv, run_getObj_map hb, run_checkKey hkt false n 9999, Instr.findKey, run_underlying hkt, h1, Sem.run_pure, hset]
      · cases hv
    · cases hv
  | insert t m k x =>
    simp only [opWrite] at hv
    split at hv
    · rename_i kt et id n hu em ek
      split at hv
      · rename_i fz es hbl hkt
        split at hv
        case isTrue => cases hv
        case isFalse hfz =>
          obtain rfl : fz = false := by simpa using hfz
          cases hv
          have hM := hρ m
          rw [em] at hM
          obtain ⟨hid, r, hMv, hr⟩ := hM.mp_inv
          have hK := hρ k
          rw [ek] at hK
          have hKv := hK.int_inv
          obtain ⟨b, ents, clk, hl, hbase, hnf, hb, hm, hbo⟩ := H.mapB hbl
          obtain rfl := hr b false hl
          have hlt : r < w.heap.size := (Array.getElem?_eq_some_iff.1 hb).1
          have chg : ∀ (ents' : Array MapEntry) (clk' : Nat), MR w c (putK n (ρ x) es) ents'.toList → BornOk ents'.toList clk' →
              Ext w c { w with heap := w.heap.setIfInBounds r (.map ents' clk') } c ∧ HR { w with heap := w.heap.setIfInBounds r (.map ents' clk') } c (h.put id (some (.mp false (putK n (ρ x) es)))) := by
            intro ents' clk' hm' hbo'
            refine H.change (w' := { w with heap := w.heap.setIfInBounds r (.map ents' clk') }) hl hnf hbase ⟨rfl, rfl, rfl, by simp⟩ (fun k hk => by simp [Array.getElem?_setIfInBounds, Ne.symm hk]) ?_ _ ?_
            · have h1 : (w.heap.setIfInBounds r (.map ents' clk'))[r]? = some (.map ents' clk') := by simp [Array.getElem?_setIfInBounds, hlt]
              simp only [csize, h1, hb]
            · intro E
              exact ⟨r, rfl, hbase, ⟨(fun hh => by cases hh), fun hh => absurd hh hnf⟩, ents', clk', by simp [Array.getElem?_setIfInBounds, hlt], hm'.mono E, hbo'⟩
          have hset : ∀ o, (setObj r o).run P w = .ok () { w with heap := w.heap.setIfInBounds r o } := by
            intro o; simp [setObj, Sem.run, hb]
          rcases putK_ok (w := w) (c := c) (k := n) (kk := .i64) (hρ x) es ents.toList 0 clk hm with ⟨j, q, h1, e1, h2, h3, h4⟩ | ⟨h1, h2⟩
          · rw [Nat.zero_add] at h1
            obtain ⟨E, H'⟩ := chg (ents.modify j fun e => { e with key := .int .i64 n, val := σ x }) clk (by rw [Array.toList_modify]; exact h4) (by rw [Array.toList_modify]; exact hbo.modify j _ fun _ => rfl)
            refine ⟨.skip, _, c, ?_, E, H', .inr ⟨rfl, rfl⟩⟩
            have hej : ents[j]? = some e1 := by rw [← Array.getElem?_toList]; exact h2
            have hstay : (Instr.keyThatStays (((ents[j]?).map (·.key)).getD (.int .i64 n)) (.int .i64 n)).run P w = .ok (.int .i64 n) w := by
              rw [hej]
              simp only [Option.map_some, Option.getD_some, h3, Instr.keyThatStays, sameBits_int, if_true, Sem.run_pure]
            simp only [execOp, hop, Instr.mapUpdate, Sem.run_bind, run_underlying hu, Result.andThen_ok, hMv, hKv, run_getObj_map hb, run_checkKey hkt false n 9999, Instr.findKey, run_underlying hkt, h1, Sem.run_pure, hstay, hset]
          · obtain ⟨E, H'⟩ := chg (ents.push { key := .int .i64 n, val := σ x, born := clk }) (clk + 1) (by rw [Array.toList_push]; exact h2) (by rw [Array.toList_push]; exact hbo.push _ rfl)
            refine ⟨.skip, _, c, ?_, E, H', .inr ⟨rfl, rfl⟩⟩
            simp only [execOp, hop, Instr.mapUpdate, Sem.run_bind, run_underlying hu, Result.andThen_ok, hMv, hKv, run_getObj_map hb, run_checkKey hkt false n 9999, Instr.findKey, run_underlying hkt, h1, Sem.run_pure, hset]
      · cases hv
    · cases hv
  | call cl =>
    obtain ⟨callee, args, argTypes⟩ := cl
    cases callee with
    | value f => simp [opWrite] at hv
    | invoke r m => simp [opWrite] at hv
    | builtin b =>
      cases b with
      | append =>
        simp only [opWrite] at hv
        split at hv
        case h_2 => cases hv
        case h_1 t t' s x ht ht' hs hx =>
        split at hv
        case h_2 => cases hv
        case h_1 e hu =>
        split at hv
        case h_2 => cases hv
        case h_1 sz by_ z ys m hsz hby hz hys hm =>
        split at hv
        case isFalse => cases hv
        case isTrue hc =>
        obtain ⟨rfl, hpos, hzl, hyl, hyc⟩ := hc
        obtain ⟨A', c', hXv, hXr⟩ := cellsOf_ok H (hρ x) hys hm
        obtain ⟨Z, hZ, hzz⟩ := izero_inv hz
        obtain ⟨i, hi, hisz⟩ := isz_info hsz
        have hib : i.bytes = by_ := by simp only [ibytes, hi, Option.map_some, Option.some.injEq] at hby; exact hby
        have hZi : i.zero = some Z := by
          have h2 := hZ w
          simp only [zeroValue, Sem.run_bind, typeInfo, run_program, Result.andThen_ok, hi, Sem.run_pure] at h2
          cases hq : i.zero with
          | none => rw [hq] at h2; simp at h2
          | some q => rw [hq] at h2; simp at h2; rw [h2]
        have hZs : Z.cells.size = sz := by
          rw [← hzl, ← hzz]
          unfold avc
          split
          · simp [AV.cells, Value.cells]
          · rename_i hna
            have h1 : Z.cells.size = 1 := by
              cases Z <;> first | rfl | exact absurd rfl (hna _)
            have h2 : (avc0 Z).cells.length = 1 := by
              unfold avc0; split <;> rfl
            omega
        have hexec : ∀ (v' : Value) (w' : World), (Builtin.append_ #[t', t'] o.type #[σ s, σ x]).run P w = .ok v' w' → (execOp σ o).run P w = .ok (.value v') w' := by
          intro v' w' hr
          have : Builtin.append_ argTypes o.type (args.map σ) = Builtin.append_ #[t', t'] o.type #[σ s, σ x] := by
            unfold Builtin.append_
            simp [ht, ht', hs, hx]
          simp only [execOp, hop, resolve, invoke, builtin, Sem.run_bind, Sem.run_pure, Result.andThen_ok, this, hr]
        -- a slice that grows into a new block
        have grow : ∀ (n old : Nat) (flat : List AV) (olds : List Value) (v0 : Value) (hp : Hp) (c0 : Ctx), Ext w c w c0 → HR w c0 hp → olds.length = n * sz → flat.length = n * sz → CRel w c0 flat olds.toArray → n ≤ old → old < n + m → 0 < m → (n + m) * by_ ≤ 140737488355328 → n + m ≤ 140737488355328 →
            (∀ (a : Addr) (news : List Value), A' = some a → news.length = m * i.size → (∀ (j : Nat) u, news[j]? = some u → w.cell? (a.add j) = some u) → (Builtin.append_ #[t', t'] o.type #[v0, σ x]).run P w = .ok (.slice (some ⟨w.heap.size, 0, none⟩) (n + m) (grownCap w (n + m) old e)) (w.drew.alloc (.cells (olds.toArray ++ news.toArray ++ Builtin.zeroCells Z.cells (grownCap w (n + m) old e - (n + m))) e))) → σ s = v0 →
            ∃ nn w' c', (execOp σ o).run P w = .ok nn w' ∧ Ext w c w' c' ∧ HR w' c' (hp.alloc (.cells false true (flat ++ ys))) ∧ NextOk w' c' (.sl hp.nx 0 (n + m) sz) nn := by
          intro n old flat olds v0 hp c0 E0 H0 hol hfl hor hno hom hm0 hbb hbl hrun hsv
          rcases hXr with rfl | ⟨a, rfl, hrow⟩
          · simp only [List.length_nil] at hyl
            have := Nat.mul_pos hm0 hpos
            omega
          · obtain ⟨news, n1, n2, n3, n4⟩ := hrow.values
            have hr := hrun a news rfl (by rw [n1, hyl, hisz]) n2
            obtain ⟨E1, H1⟩ := H0.drew
            have n4' : CRel w.drew c0 ys news.toArray := (n4.mono E0).mono E1
            have hor' := hor.mono E1
            have hcr := CR.append (cs := #[]) olds news (Builtin.zeroCells Z.cells (grownCap w (n + m) old e - (n + m))) hor' n4'
            obtain ⟨E2, H2, hl2, hcs2⟩ := H1.newC hcr e true
            rw [← hsv] at hr
            refine ⟨_, _, _, hexec _ _ hr, (E0.trans E1).trans E2, H2, .inl ⟨_, rfl, ?_⟩⟩
            have hge := grownCap_ge w (n + m) old e
            have hcm := grownCap_le_maxLen w (n + m) old e (by simp only [maxLen]; omega)
            refine .sl _ _ _ _ _ (by simp [Ctx.push, H0.nx]) ⟨_, _, rfl, hge, hcm, (fun hh => by cases hh), ?_, ?_⟩
            · intro hh; rw [hl2] at hh; cases hh
            · intro b row hb _
              rw [hl2] at hb
              cases hb
              have hsize : (olds.toArray ++ news.toArray ++ Builtin.zeroCells Z.cells (grownCap w (n + m) old e - (n + m))).size = grownCap w (n + m) old e * sz := by
                simp only [Array.size_append, List.size_toArray, size_zeroCells, hZs, hol, n1, hyl, ← Nat.add_mul]
                congr 1
                omega
              refine ⟨rfl, ?_, fun _ => ?_⟩
              · show 0 + _ ≤ csize _ w.drew.heap.size
                rw [hcs2, hsize]; omega
              · show 0 + _ = csize _ w.drew.heap.size
                rw [hcs2, hsize]; omega
        split at hv
        · -- from nothing
          rename_i es
          split at hv
          · rename_i hbnd
            cases hv
            have hsv : σ s = .slice none 0 0 := by have := hρ s; rw [es] at this; exact this.nil_inv
            by_cases hm0 : m = 0
            · subst hm0
              have hy0 : ys = [] := List.eq_nil_of_length_eq_zero (by simpa using hyl)
              subst hy0
              have hr := run_append_zero (P := P) (w := w) (ty := o.type) hu hsz none A' 0 0 c' (Nat.le_refl _)
              rw [← hsv, ← hXv] at hr
              have E := H.pushExt (Below.refl _ w) .nilv
              have H' := H.push (Below.refl _ w) .nilv (.cells false true []) ⟨rfl, rfl⟩ (fun b r hb => by cases hb)
              refine ⟨_, _, _, hexec _ _ hr, E, H', .inl ⟨_, rfl, ?_⟩⟩
              rw [hsv]
              refine .sl _ _ _ _ _ (by simp [Ctx.push, H.nx]) ⟨none, 0, rfl, Nat.le_refl _, by simp [maxLen], fun _ => rfl, fun _ => ⟨rfl, rfl⟩, ?_⟩
              intro b row hb
              simp only [Ctx.push] at hb
              rw [if_pos H.nx.symm] at hb
              cases hb
            · have := grow 0 0 [] [] (.slice none 0 0) h c (Ext.refl _ _) H (by simp) (by simp) ⟨rfl, by simp, by simp⟩ (Nat.le_refl _) (by omega) (by omega) (by simpa using hbnd.1) (by simpa using hbnd.2) (fun a news ha h1 h2 => by
                subst ha
                rw [hXv]
                have h63 : (m : Int) ≤ 9223372036854775807 := by have := hbnd.2; omega
                have := run_append_nil (P := P) w t' o.type e i Z hu hi hZi a m c' news h1 h2 (by omega) h63 (by rw [hib]; have := hbnd.1; omega)
                simpa using this) hsv
              simpa using this
          · cases hv
        · rename_i id n sz' es
          split at hv
          · rename_i flat hbl
            split at hv
            · rename_i hcond
              obtain ⟨rfl, hfl, hbb, hnm⟩ := hcond
              cases hv
              have hS := hρ s
              rw [es] at hS
              obtain ⟨hid, A, cap, hsv, g1, g2, g3, g4, g5⟩ := hS.sl_inv
              by_cases hm0 : m = 0
              · subst hm0
                have hy0 : ys = [] := List.eq_nil_of_length_eq_zero (by simpa using hyl)
                subst hy0
                have hr := run_append_zero (P := P) (w := w) (ty := o.type) hu hsz A A' n cap c' g1
                rw [← hsv, ← hXv] at hr
                obtain ⟨c1, E1, H1, hl1, hlt1⟩ := H.rename hbl
                simp only [List.append_nil]
                refine ⟨_, _, _, hexec _ _ hr, E1, H1, .inl ⟨_, rfl, ?_⟩⟩
                rw [hsv]
                refine .sl _ _ _ _ _ hlt1 ⟨A, cap, rfl, g1, g2, g3, ?_, ?_⟩
                · intro hh; rw [show c1.loc h.nx = c.loc id from hl1] at hh; exact g4 hh
                · intro b row hb; rw [show c1.loc h.nx = c.loc id from hl1] at hb; exact g5 b row hb
              · rcases H.read hbl with ⟨hl, rfl, _⟩ | ⟨b, cs, e', hl, h4, h5, h6, h7, hrow0⟩
                · obtain ⟨rfl, rfl⟩ := g4 hl
                  have hn0 : n = 0 := by omega
                  subst hn0
                  obtain ⟨E1, H1⟩ := H.kill id
                  have := grow 0 0 [] [] (.slice none 0 0) (h.put id none) (c.kill id) E1 H1 (by simp) (by simp) ⟨rfl, by simp, by simp⟩ (Nat.le_refl _) (by omega) (by omega) (by simpa using hbb) (by simpa using hnm) (fun a news ha h1 h2 => by
                    subst ha
                    rw [hXv]
                    have h63 : (m : Int) ≤ 9223372036854775807 := by omega
                    have := run_append_nil (P := P) w t' o.type e i Z hu hi hZi a m c' news h1 h2 (by omega) h63 (by rw [hib]; simp only [Nat.zero_add] at hbb; omega)
                    simpa using this) hsv
                  simpa [put_nx] using this
                · obtain ⟨q1, q2, q3⟩ := g5 b true hl (.inr ⟨rfl, rfl⟩)
                  subst q1
                  have q3' := q3 rfl
                  have hcsz : csize w b = cs.size := by simp [csize, h4]
                  rw [hcsz, Nat.zero_add] at q3'
                  by_cases hroom : n + m ≤ cap
                  · rcases hXr with rfl | ⟨a, rfl, hrow⟩
                    · simp only [List.length_nil] at hyl
                      have := Nat.mul_pos (Nat.pos_of_ne_zero hm0) hpos
                      omega
                    · obtain ⟨news, n1, n2, n3, n4⟩ := hrow.values
                      have hcap : (n + m) * sz' ≤ cap * sz' := Nat.mul_le_mul_right _ hroom
                      rw [Nat.add_mul] at hcap
                      have hfit : n * sz' + news.length ≤ cs.size := by rw [n1, hyl]; omega
                      have hr := run_append_room' (P := P) (w := w) t' o.type e e' hu hsz b n cap cs h4 a m c' news (by rw [n1, hyl]) n2 n3 hroom hfit
                      rw [← hsv, ← hXv] at hr
                      -- the block, longer
                      have hput : CR w c (flat ++ ys) (putRow cs (n * sz') news) := by
                        refine ⟨by rw [putRow_size hfit, List.length_append]; omega, ?_⟩
                        intro j y hj
                        rw [Array.getD_eq_getD_getElem?, putRow_get hfit]
                        by_cases hjl : j < flat.length
                        · rw [List.getElem?_append_left hjl] at hj
                          rw [if_neg (by omega)]
                          have := h5.2 j y hj
                          rw [Array.getD_eq_getD_getElem?] at this
                          exact this
                        · rw [List.getElem?_append_right (by omega)] at hj
                          have hj' := (List.getElem?_eq_some_iff.1 hj).1
                          rw [if_pos (by omega)]
                          have := n4.2.2 _ y hj
                          rw [Array.getD_eq_getD_getElem?, List.getElem?_toArray] at this
                          rw [hfl] at this
                          exact ⟨n4.2.1 y (List.mem_of_getElem? hj), this⟩
                      obtain ⟨E1, H1⟩ := H.change (w' := w.setRow b (putRow cs (n * sz') news)) hl (fun hf => by have := h6.2 hf; cases this) h7 ⟨rfl, rfl, rfl, by simp⟩ (fun k hk => setRow_other w b k _ hk) (by
                        simp only [csize, setRow_heap w b cs _ e' (0, 0) h4, h4, putRow_size hfit]) (.cells false true (flat ++ ys)) (fun E => ⟨rfl, h7, h6, _, _, setRow_heap w b cs _ e' (0, 0) h4, hput.mono E⟩)
                      have hb1 : (h.put id (some (.cells false true (flat ++ ys)))).bl id = some (.cells false true (flat ++ ys)) := by simp [Hp.put]
                      obtain ⟨c2, E2, H2, hl2, hlt2⟩ := H1.rename hb1
                      have hpp : ((h.put id (some (.cells false true (flat ++ ys)))).put id none) = h.put id none := by
                        simp only [Hp.put]; congr 1; funext i; split <;> rfl
                      rw [hpp] at H2
                      refine ⟨_, _, _, hexec _ _ hr, E1.trans E2, H2, .inl ⟨_, rfl, ?_⟩⟩
                      refine .sl _ _ _ _ _ hlt2 ⟨_, cap, rfl, hroom, g2, (fun hh => by cases hh), ?_, ?_⟩
                      · intro hh; rw [show c2.loc h.nx = c.loc id from hl2, hl] at hh; cases hh
                      · intro b' row hb _
                        rw [show c2.loc h.nx = c.loc id from hl2, hl] at hb
                        cases hb
                        have : csize (w.setRow b (putRow cs (n * sz') news)) b = cs.size := by simp only [csize, setRow_heap w b cs _ e' (0, 0) h4, putRow_size hfit]
                        rw [this]
                        exact ⟨rfl, by omega, fun _ => by omega⟩
                  · obtain ⟨olds, o1, o2, o3, o4⟩ := hrow0.values
                    obtain ⟨E1, H1⟩ := H.kill id
                    exact grow n cap flat olds _ (h.put id none) (c.kill id) E1 H1 (by rw [o1, hfl]) hfl (o4.mono E1) g1 (by omega) (by omega) hbb hnm (fun a news ha h1 h2 => by
                      subst ha
                      rw [hXv]
                      have h63 : ((n + m : Nat) : Int) ≤ 9223372036854775807 := by omega
                      exact run_append_grow (P := P) w t' o.type e i Z hu hi hZi ⟨b, 0, none⟩ n cap olds (by rw [o1, hfl, hisz]) o2 a m c' news h1 h2 (by omega) h63 (growslice_fits (by omega) (by rw [hib]; exact hbb))) hsv
            · cases hv
          · cases hv
        · cases hv
      | copy =>
        simp only [opWrite] at hv
        split at hv
        case h_2 => cases hv
        case h_1 t id off n sz x ht hd hx =>
        split at hv
        case h_2 => cases hv
        case h_1 e hu =>
        split at hv
        case h_2 => cases hv
        case h_1 sz' ys m row flat hsz hys hm hbl =>
        split at hv
        case isFalse => cases hv
        case isTrue hc =>
        obtain ⟨rfl, hpos, hyl, hle, hyc⟩ := hc
        cases hv
        obtain ⟨d, hd1, hd2⟩ := Option.map_eq_some_iff.1 hd
        obtain ⟨A', c', hXv, hXr⟩ := cellsOf_ok H (hρ x) hys hm
        have hD := hρ d
        rw [hd2] at hD
        obtain ⟨hid, A, cap, hDv, g1, g2, g3, g4, g5⟩ := hD.sl_inv
        -- what is read
        have hread : ∃ news : List Value, (Builtin.firstCells sz' (min m n) (σ x)).run P w = .ok news.toArray w ∧ CRel w c (ys.take (min m n * sz')) news.toArray := by
          have hmn : min m n * sz' ≤ m * sz' := Nat.mul_le_mul_right _ (Nat.min_le_left _ _)
          rcases hXr with rfl | ⟨a, rfl, hrow⟩
          · have h0 : min m n * sz' = 0 := by simp only [List.length_nil] at hyl; omega
            refine ⟨[], ?_, by simp [CRel]⟩
            rw [hXv]
            cases A' <;> simp [Builtin.firstCells, loadCells, h0, loadCellsFrom]
          · obtain ⟨f, f1, f2⟩ := hrow.cells (min m n * sz') (by omega)
            refine ⟨(List.range (min m n * sz')).map f, ?_, f2⟩
            rw [hXv]
            simp only [Builtin.firstCells]
            exact run_loadCells a f _ f1
        obtain ⟨news, hrun, hrel⟩ := hread
        have hnl : news.length = min m n * sz' := by
          have := hrel.1
          simp only [List.size_toArray, List.length_take] at this
          have hmn : min m n * sz' ≤ m * sz' := Nat.mul_le_mul_right _ (Nat.min_le_left _ _)
          omega
        have hexec : ∀ (w' : World), (∀ a, A = some a → (storeCells a news).run P w = .ok () w') → (A = none → w' = w) → (execOp σ o).run P w = .ok (.value (.int .i64 ((min m n : Nat) : Int))) w' := by
          intro w' h1 h2
          have : (Builtin.copy_ argTypes o.type (args.map σ)).run P w = .ok (.int .i64 ((min m n : Nat) : Int)) w' := by
            unfold Builtin.copy_
            cases A with
            | none =>
              have := h2 rfl
              subst this
              rw [hXv] at hrun
              simp only [Array.getElem?_map, ht, hd1, hx, Option.map_some, hDv, hXv, Sem.run_bind, run_underlying hu, Result.andThen_ok, Builtin.lenOf, Sem.run_pure, run_size hsz]
              have e : Nat.min m n = min m n := rfl
              rw [e, hrun]
              simp [goInt]
            | some a =>
              have := h1 a rfl
              rw [hXv] at hrun
              simp only [Array.getElem?_map, ht, hd1, hx, Option.map_some, hDv, hXv, Sem.run_bind, run_underlying hu, Result.andThen_ok, Builtin.lenOf, Sem.run_pure, run_size hsz]
              have e : Nat.min m n = min m n := rfl
              rw [e, hrun]
              simp [goInt, this]
          simp only [execOp, hop, resolve, invoke, builtin, Sem.run_bind, Sem.run_pure, Result.andThen_ok, this]
        by_cases h0 : min m n * sz' = 0
        · -- nothing is copied
          have hn0 : news = [] := List.eq_nil_of_length_eq_zero (by omega)
          subst hn0
          refine ⟨_, w, c, hexec w (fun a _ => by simp [storeCells]) (fun _ => rfl), Ext.refl _ _, ?_, .inl ⟨_, rfl, .int _ _⟩⟩
          have : h.put id (some (.cells false row (setL flat off (ys.take (min m n * sz'))))) = h := by
            rw [h0]
            simp only [List.take_zero, setL, Hp.put]
            cases h with
            | mk nx bl =>
              congr 1
              funext i
              split
              · rename_i hi; subst hi; exact hbl.symm
              · rfl
          rw [this]; exact H
        · have hmin : 0 < min m n := Nat.pos_of_ne_zero (by intro hz; rw [hz] at h0; simp at h0)
          have hnpos : 0 < n := by omega
          rcases H.read hbl with ⟨hl, _⟩ | ⟨b, cs, e', hl, h4, h5, h6, h7, _⟩
          · have := (g4 hl).2; omega
          · obtain ⟨q1, _⟩ := g5 b row hl (.inl (by omega))
            subst q1
            have hmn : min m n * sz' ≤ n * sz' := Nat.mul_le_mul_right _ (Nat.min_le_right _ _)
            obtain ⟨E, H', hst⟩ := H.store hl hbl h4 h5 hrel (off := off) (by simp only [List.length_take]; omega)
            refine ⟨_, _, c, hexec _ (fun a ha => by cases ha; exact hst P) (fun hh => by cases hh), E, H', .inl ⟨_, rfl, .int _ _⟩⟩
      | clear =>
        simp only [opWrite] at hv
        split at hv
        case h_2 => cases hv
        case h_1 t id off n sz ht hd =>
        split at hv
        case h_2 => cases hv
        case h_1 e hu =>
        split at hv
        case h_2 => cases hv
        case h_1 sz' z row flat hsz hz hbl =>
        split at hv
        case isFalse => cases hv
        case isTrue hc =>
        obtain ⟨rfl, hpos, hzl, hle, hzc⟩ := hc
        cases hv
        obtain ⟨d, hd1, hd2⟩ := Option.map_eq_some_iff.1 hd
        have hD := hρ d
        rw [hd2] at hD
        obtain ⟨hid, A, cap, hDv, g1, g2, g3, g4, g5⟩ := hD.sl_inv
        obtain ⟨Z, hZ, hzz⟩ := izero_inv hz
        have hzv : VR w c z Z := by rw [← hzz]; exact avc_ok (by rw [hzz]; exact hzc)
        have hzr := hzv.cellsRel (all_cells hzc)
        have hrel := replicate_cells hzr (by omega) n
        have hfl : (List.replicate n z.cells).flatten.length = n * sz' := by
          have := flatten_len (sz := sz') (xs := List.replicate n z.cells) (fun x hx => by rw [(List.mem_replicate.1 hx).2]; exact hzl)
          rw [this, List.length_replicate]
        have hZs : Z.cells.size = z.cells.length := hzr.1.symm
        by_cases h0 : n = 0
        · subst h0
          refine ⟨.value (.tuple #[]), w, c, ?_, Ext.refl _ _, ?_, .inl ⟨_, rfl, .tup _ _ rfl (fun j x hj => by cases hj)⟩⟩
          · have : (Builtin.clear_ argTypes o.type (args.map σ)).run P w = .ok (.tuple #[]) w := by
              unfold Builtin.clear_
              cases A <;> simp [Array.getElem?_map, ht, hd1, hDv, Sem.run_bind, run_underlying hu]
            simp only [execOp, hop, resolve, invoke, builtin, Sem.run_bind, Sem.run_pure, Result.andThen_ok, this]
          · have : h.put id (some (.cells false row (setL flat off (List.replicate 0 z.cells).flatten))) = h := by
              simp only [List.replicate_zero, List.flatten_nil, setL, Hp.put]
              cases h with
              | mk nx bl =>
                congr 1
                funext i
                split
                · rename_i hi; subst hi; exact hbl.symm
                · rfl
            rw [this]; exact H
        · rcases H.read hbl with ⟨hl, _⟩ | ⟨b, cs, e', hl, h4, h5, h6, h7, _⟩
          · have := (g4 hl).2; omega
          · obtain ⟨q1, _⟩ := g5 b row hl (.inl (by omega))
            subst q1
            obtain ⟨E, H', hst⟩ := H.store hl hbl h4 h5 hrel (off := off) (by rw [hfl]; exact hle)
            refine ⟨.value (.tuple #[]), _, c, ?_, E, H', .inl ⟨_, rfl, .tup _ _ rfl (fun j x hj => by cases hj)⟩⟩
            have : (Builtin.clear_ argTypes o.type (args.map σ)).run P w = .ok (.tuple #[]) (w.setRow b (putRow cs off ((Array.range (n * z.cells.length)).map fun i => Z.cells[i % Z.cells.size]!).toList)) := by
              obtain ⟨n, rfl⟩ : ∃ k, n = k + 1 := ⟨n - 1, by omega⟩
              have hst' := hst P
              have hzc' : Builtin.zeroCells Z.cells (n + 1) = (Array.range ((n + 1) * z.cells.length)).map fun i => Z.cells[i % Z.cells.size]! := by rw [← hZs]; rfl
              rw [← hzc'] at hst' ⊢
              unfold Builtin.clear_
              simp only [Array.getElem?_map, ht, hd1, Option.map_some, hDv, Sem.run_bind, run_underlying hu, Result.andThen_ok, hZ, hst', Sem.run_pure]
            simp only [execOp, hop, resolve, invoke, builtin, Sem.run_bind, Sem.run_pure, Result.andThen_ok, this]
      | _ => simp [opWrite] at hv
  | _ => simp [opWrite] at hv

end Go.Am

