/-
  New blocks; blocks that nobody will write any more.
-/
import Derived.Test.YtcdpkgmkckfonaaAmRead
set_option linter.unusedVariables false
set_option linter.unusedSimpArgs false
namespace Go.Am
open Go Go.RowKit

variable {P : Program} {w : World} {c : Ctx} {h : Hp}

def Ctx.push (c : Ctx) (l : Loc) : Ctx := { c with nx := c.nx + 1, loc := fun i => if i = c.nx then l else c.loc i }

theorem alloc_old (w : World) (o : Obj) {b : Nat} (hb : b < w.heap.size) : (w.alloc o).heap[b]? = w.heap[b]? := by
  exact heap_alloc_old w o b hb
theorem alloc_new (w : World) (o : Obj) : (w.alloc o).heap[w.heap.size]? = some o := heap_alloc_new w o

theorem HR.pushExt (H : HR w c h) {w' : World} (hb : Below w.heap.size w w') (l : Loc) : Ext w c w' (c.push l) := by
  refine ⟨rfl, by simp [Ctx.push], hb.mono H.base, fun b hf => hf, fun b hf => hb.block b (H.fzlt b hf), ?_, ?_, fun _ hf => .inl hf, rfl, fun b hp => hb.block b (H.priv b hp).1⟩
  · intro id hid
    left
    simp only [Ctx.push]
    rw [if_neg (by omega)]
  · intro id b row hid hl
    simp only [Ctx.push] at hl
    rw [if_neg (by omega)] at hl
    obtain ⟨_, _, _, _, h2, _⟩ := H.at hl
    simp only [csize, hb.block b h2]

/-- A new block, of whatever kind. -/
theorem HR.push (H : HR w c h) {w' : World} (hb : Below w.heap.size w w') (l : Loc) (blk : Blk) (hB : BR w' (c.push l) l blk) (hl : ∀ b r, l = .at_ b r → w.heap.size ≤ b) : HR w' (c.push l) (h.alloc blk) := by
  have E := H.pushExt hb l
  have hnx := H.nx
  refine ⟨by simp [Ctx.push, Hp.alloc, hnx], ?_, ?_, ?_, ?_, fun b hf => Nat.lt_of_lt_of_le (H.fzlt b hf) hb.size, Nat.le_trans H.base hb.size, fun b hp => ⟨Nat.lt_of_lt_of_le (H.priv b hp).1 hb.size, (H.priv b hp).2.1, fun id r he => by
    simp only [Ctx.push] at he
    split at he
    · have := hl b r he
      have := (H.priv b hp).1
      omega
    · exact (H.priv b hp).2.2 id r he⟩⟩
  · intro id hid
    simp only [Hp.alloc] at hid
    split at hid
    · cases hid
    · rename_i hne
      simp only [Ctx.push]
      rw [if_neg (by omega)]
      exact H.dead id hid
  · intro id hid
    simp only [Hp.alloc] at hid ⊢
    rw [if_neg (by omega)]
    exact H.hi id (by omega)
  · intro id b hbl
    simp only [Hp.alloc] at hbl
    split at hbl
    · rename_i he
      cases hbl
      subst he
      have : (c.push l).loc h.nx = l := by simp only [Ctx.push]; rw [if_pos hnx.symm]
      rw [this]
      exact hB
    · rename_i hne
      have : (c.push l).loc id = c.loc id := by simp only [Ctx.push]; rw [if_neg (by omega)]
      rw [this]
      refine (H.blk id b hbl).mono E ?_ ?_
      · intro n r hl; exact hb.block n ((H.blk id b hbl).lt n r hl).2
      · intro n r hl; exact Iff.rfl
  · intro i j b r s hi hj
    have key : ∀ i b r, (c.push l).loc i = .at_ b r → i ≠ c.nx → b < w.heap.size := by
      intro i b r hi hne
      simp only [Ctx.push] at hi
      rw [if_neg hne] at hi
      obtain ⟨_, _, _, _, h2, _⟩ := H.at hi
      exact h2
    by_cases hin : i = c.nx
    · by_cases hjn : j = c.nx
      · omega
      · have h1 := key j b s hj hjn
        simp only [Ctx.push] at hi
        rw [if_pos hin] at hi
        have := hl b r hi
        omega
    · by_cases hjn : j = c.nx
      · have h1 := key i b r hi hin
        simp only [Ctx.push] at hj
        rw [if_pos hjn] at hj
        have := hl b s hj
        omega
      · simp only [Ctx.push] at hi hj
        rw [if_neg hin] at hi
        rw [if_neg hjn] at hj
        exact H.inj i j b r s hi hj

theorem below_alloc1 (w : World) (o : Obj) : Below w.heap.size w (w.alloc o) := (Below.refl _ _).alloc (Nat.le_refl _) o

theorem CRel.toCR {flat : List AV} {cs : Array Value} (hr : CRel w c flat cs) : CR w c flat cs :=
  ⟨Nat.le_of_eq hr.1, fun j x hj => ⟨hr.2.1 x (List.mem_of_getElem? hj), hr.2.2 j x hj⟩⟩
theorem CRel.mono {w w' : World} {c c' : Ctx} {flat : List AV} {cs : Array Value} (hr : CRel w c flat cs) (e : Ext w c w' c') : CRel w' c' flat cs :=
  ⟨hr.1, hr.2.1, fun j x hj => (hr.2.2 j x hj).mono e⟩

/-- A new row of cells. -/
theorem HR.new (H : HR w c h) {flat : List AV} {cs : Array Value} (hr : CRel w c flat cs) (e : TypeId) (row : Bool) :
    Ext w c (w.alloc (.cells cs e)) (c.push (.at_ w.heap.size row)) ∧ HR (w.alloc (.cells cs e)) (c.push (.at_ w.heap.size row)) (h.alloc (.cells false row flat)) ∧ (c.push (.at_ w.heap.size row)).loc h.nx = .at_ w.heap.size row ∧ csize (w.alloc (.cells cs e)) w.heap.size = cs.size := by
  have E := H.pushExt (below_alloc1 w (.cells cs e)) (.at_ w.heap.size row)
  refine ⟨E, H.push (below_alloc1 w _) _ _ ?_ (fun b r hb => by cases hb; exact Nat.le_refl _), ?_, ?_⟩
  · refine ⟨rfl, H.base, ⟨(fun h => by cases h), fun hf => ?_⟩, cs, e, alloc_new w _, (hr.mono E).toCR⟩
    exact absurd (H.fzlt _ hf) (Nat.lt_irrefl _)
  · simp only [Ctx.push]; rw [if_pos H.nx.symm]
  · simp only [csize, alloc_new]

theorem chunkF_ok {sz : Nat} (hsz : 0 < sz) : ∀ (n k : Nat) (l : List AV), l.length = n * sz → n ≤ k → (chunkF sz k l).length = n ∧ (chunkF sz k l).flatten = l ∧ ∀ x ∈ chunkF sz k l, x.length = sz := by
  intro n
  induction n with
  | zero =>
    intro k l hl _
    have : l = [] := List.eq_nil_of_length_eq_zero (by simpa using hl)
    subst this
    have : chunkF sz k ([] : List AV) = [] := by cases k <;> rfl
    rw [this]; simp
  | succ n ih =>
    intro k l hl hk
    obtain ⟨k, rfl⟩ : ∃ k', k = k' + 1 := ⟨k - 1, by omega⟩
    cases l with
    | nil =>
      simp only [List.length_nil, Nat.add_mul] at hl
      omega
    | cons x xs =>
      have hd : ((x :: xs).drop sz).length = n * sz := by rw [List.length_drop, hl, Nat.add_mul]; omega
      obtain ⟨h1, h2, h3⟩ := ih k _ hd (by omega)
      have : chunkF sz (k + 1) (x :: xs) = (x :: xs).take sz :: chunkF sz k ((x :: xs).drop sz) := rfl
      rw [this]
      refine ⟨by simp [h1], by simp only [List.flatten_cons, h2, List.take_append_drop], ?_⟩
      intro y hy
      rcases List.mem_cons.1 hy with rfl | hy
      · rw [List.length_take, hl, Nat.add_mul]; omega
      · exact h3 y hy
theorem chunk_ok {sz : Nat} (hsz : 0 < sz) (n : Nat) (l : List AV) (hl : l.length = n * sz) : (chunk sz l).length = n ∧ (chunk sz l).flatten = l ∧ ∀ x ∈ chunk sz l, x.length = sz := by
  unfold chunk
  rw [if_neg (by omega)]
  refine chunkF_ok hsz n _ l hl ?_
  rw [hl]
  exact Nat.le_mul_of_pos_right n hsz

/-- From now on nobody writes this block. -/
def Ctx.shut (c : Ctx) (id : Nat) : Ctx := { c with fz := fun b => c.fz b ∨ ∃ r, c.loc id = .at_ b r }

theorem HR.sealExt (H : HR w c h) (id : Nat) : Ext w c w (c.shut id) :=
  ⟨rfl, Nat.le_refl _, Below.refl _ _, fun _ hb => .inl hb, fun _ _ => rfl, fun _ _ => .inl rfl, fun _ _ _ _ _ => rfl, fun b hf => by
    rcases hf with hf | ⟨r, hr⟩
    · exact .inl hf
    · obtain ⟨_, _, _, h1, _⟩ := H.at hr; exact .inr h1, rfl, fun _ _ => rfl⟩
theorem HR.shut (H : HR w c h) {id : Nat} {fz row : Bool} {flat : List AV} (hb : h.bl id = some (.cells fz row flat)) : HR w (c.shut id) (h.put id (some (.cells true row flat))) := by
  have E := H.sealExt id
  refine ⟨H.nx, ?_, ?_, ?_, H.inj, ?_, H.base, fun b hp => ⟨(H.priv b hp).1, fun hf => hf.elim (H.priv b hp).2.1 fun ⟨r, hr⟩ => (H.priv b hp).2.2 _ r hr, (H.priv b hp).2.2⟩⟩
  · intro j hj
    simp only [Hp.put] at hj
    split at hj
    · cases hj
    · exact H.dead j hj
  · intro j hj
    simp only [Hp.put] at hj ⊢
    split
    · rename_i he
      subst he
      rw [H.hi j hj] at hb; cases hb
    · exact H.hi j hj
  · intro j b hbl
    simp only [Hp.put] at hbl
    split at hbl
    · rename_i he
      cases hbl
      subst he
      have hB := H.blk j _ hb
      show BR w (c.shut j) (c.loc j) _
      simp only [BR] at hB ⊢
      split at hB
      · exact hB.elim
      · exact hB
      · rename_i b r hl
        obtain ⟨h1, h2, h3, cs, e, h4, h5⟩ := hB
        exact ⟨h1, h2, ⟨fun _ => .inr ⟨r, hl⟩, fun _ => trivial⟩, cs, e, h4, h5.mono E⟩
    · rename_i hne
      show BR w (c.shut id) (c.loc j) b
      refine (H.blk j b hbl).mono E (fun _ _ _ => rfl) ?_
      intro n r hl
      constructor
      · rintro (hf | ⟨s, hs⟩)
        · exact hf
        · exact absurd (H.inj j id n r s hl hs) hne
      · exact .inl
  · rintro b (hf | ⟨r, hr⟩)
    · exact H.fzlt b hf
    · obtain ⟨_, _, _, _, h2, _⟩ := H.at hr
      exact h2

theorem HR.shutM (H : HR w c h) {id : Nat} {fz : Bool} {es : List (Int × AV)} (hb : h.bl id = some (.mp fz es)) : HR w (c.shut id) (h.put id (some (.mp true es))) := by
  have E := H.sealExt id
  refine ⟨H.nx, ?_, ?_, ?_, H.inj, ?_, H.base, fun b hp => ⟨(H.priv b hp).1, fun hf => hf.elim (H.priv b hp).2.1 fun ⟨r, hr⟩ => (H.priv b hp).2.2 _ r hr, (H.priv b hp).2.2⟩⟩
  · intro j hj
    simp only [Hp.put] at hj
    split at hj
    · cases hj
    · exact H.dead j hj
  · intro j hj
    simp only [Hp.put] at hj ⊢
    split
    · rename_i he
      subst he
      rw [H.hi j hj] at hb; cases hb
    · exact H.hi j hj
  · intro j b hbl
    simp only [Hp.put] at hbl
    split at hbl
    · rename_i he
      cases hbl
      subst he
      obtain ⟨b, h1, h2, h3, ents, clk, h4, h5, h6⟩ := H.blk j _ hb
      exact ⟨b, h1, h2, ⟨fun _ => .inr ⟨false, h1⟩, fun _ => rfl⟩, ents, clk, h4, h5.mono E, h6⟩
    · rename_i hne
      show BR w (c.shut id) (c.loc j) b
      refine (H.blk j b hbl).mono E (fun _ _ _ => rfl) ?_
      intro n r hl
      constructor
      · rintro (hf | ⟨s, hs⟩)
        · exact hf
        · exact absurd (H.inj j id n r s hl hs) hne
      · exact .inl
  · rintro b (hf | ⟨r, hr⟩)
    · exact H.fzlt b hf
    · obtain ⟨_, _, _, _, h2, _⟩ := H.at hr
      exact h2

structure Sealed (w : World) (c : Ctx) (h : Hp) (v : AV) (x : Value) (c' : Ctx) (h' : Hp) : Prop where
  ext : Ext w c w c'
  hr : HR w c' h'
  vr : VR w c' v x
  pure : v.isPure = true

theorem pureL_flatten_of {l : List AV} (h : AV.pureL l = true) (n m : Nat) : AV.pureL ((l.drop n).take m) = true := by
  have h1 : l.take n ++ l.drop n = l := List.take_append_drop n l
  have h2 : (l.drop n).take m ++ (l.drop n).drop m = l.drop n := List.take_append_drop m _
  rw [← h1, ← h2, pureL_append, pureL_append] at h
  simp only [Bool.and_eq_true] at h
  exact h.2.1

/-- A slice of a block that is sealed, its cells as somebody else may know them. -/
theorem shut_slice (H : HR w c h) {id off n sz : Nat} {fz row : Bool} {flat flat' : List AV} {x : Value} (hb : h.bl id = some (.cells fz row flat)) (hv : VR w c (.sl id off n sz) x)
    (hrow : ∀ b, c.loc id = .at_ b row → RowAt w c flat' ⟨b, 0, none⟩) (hle : off + n * sz ≤ flat'.length) (hsz : 0 < sz) :
    VR w (c.shut id) (.lst (chunk sz ((flat'.drop off).take (n * sz)))) x := by
  have hlen : ((flat'.drop off).take (n * sz)).length = n * sz := by simp; omega
  obtain ⟨k1, k2, k3⟩ := chunk_ok hsz n _ hlen
  obtain ⟨hid, A, cap, rfl, g1, g2, g3, g4, g5⟩ := hv.sl_inv
  by_cases hn : n = 0
  · subst hn
    have : chunk sz ((flat'.drop off).take (0 * sz)) = [] := List.eq_nil_of_length_eq_zero k1
    rw [this]
    cases A with
    | none => rw [g3 rfl]; exact .lst0
    | some a => exact .lst [] a cap 0 (fun _ => Go.undef) ⟨by simp, g2⟩ (fun h => absurd rfl h) (by simp) (by simp) (by simp) (by simp)
  · rcases H.read hb with ⟨hl, _⟩ | ⟨b, cs, e, hl, h4, h5, h6, h7, _⟩
    · have := g4 hl; omega
    · obtain ⟨q1, _⟩ := g5 b row hl (by omega)
      subst q1
      have hr := hrow b hl
      obtain ⟨f, f1, f2⟩ := (hr.drop off).cells (n * sz) (by simp; omega)
      rw [add_lit, Nat.zero_add] at f1
      have e1 : (VR w (c.shut id) (.lst (chunk sz ((flat'.drop off).take (n * sz)))) (.slice (some ⟨b, off, none⟩) (chunk sz ((flat'.drop off).take (n * sz))).length cap)) := by
        refine .lst _ _ cap sz f ⟨by omega, g2⟩ (fun _ => .inr ⟨row, hl⟩) k3 ?_ ?_ ?_
        · rw [k2]; exact f2.2.1
        · rw [k2]; intro j hj; exact f1 j (by omega)
        · rw [k2]
          intro j y hj
          have h1 := f2.2.2 j y hj
          have hlt := (List.getElem?_eq_some_iff.1 hj).1
          rw [hlen] at hlt
          simp only [Array.getD_eq_getD_getElem?, List.getElem?_toArray, List.getElem?_map, List.getElem?_range hlt, Option.map_some, Option.getD_some] at h1
          exact h1.mono (H.sealExt id)
      rw [k1] at e1
      exact e1

theorem sealV0_ok (H : HR w c h) {v v' : AV} {x : Value} {h' : Hp} (hv : VR w c v x) (hs : sealV0 h v = some (v', h')) : ∃ c', Sealed w c h v' x c' h' := by
  unfold sealV0 at hs
  split at hs
  · rename_i hp
    cases hs
    refine ⟨c, Ext.refl _ _, H, ?_, ?_⟩
    · split
      · rw [hv.nil_inv]; exact .lst0
      · exact hv
    · split
      · rfl
      · exact hp
  · split at hs
    · rename_i id off n sz hnp
      split at hs
      · rename_i fz row flat hb
        split at hs
        · rename_i hc
          obtain ⟨hp, hle, hsz⟩ := hc
          cases hs
          have hlen : ((flat.drop off).take (n * sz)).length = n * sz := by simp; omega
          obtain ⟨k1, k2, k3⟩ := chunk_ok hsz n _ hlen
          refine ⟨c.shut id, H.sealExt id, H.shut hb, shut_slice H hb hv ?_ hle hsz, ?_⟩
          · intro b hl
            rcases H.read hb with ⟨hl', _⟩ | ⟨b', cs, e, hl', h4, h5, h6, h7, hr⟩
            · rw [hl'] at hl; cases hl
            · rw [hl'] at hl; cases hl; exact hr
          · simp only [AV.isPure]
            rw [← pureLL_flatten, k2]
            exact pureL_flatten_of hp off _
        · cases hs
      · cases hs
    · rename_i id off hnp
      split at hs
      · rename_i fz row flat hb
        split at hs
        · rename_i hc
          obtain ⟨hp, hle⟩ := hc
          cases hs
          refine ⟨c.shut id, H.sealExt id, H.shut hb, ?_, ?_⟩
          · obtain ⟨hid, a, rfl, ha⟩ := hv.ptr_inv
            rcases H.read hb with ⟨hl, rfl, _⟩ | ⟨b, cs, e, hl, h4, h5, h6, h7, hr⟩
            · simp only [List.drop_nil]
              exact .pp [] a (fun _ => Go.undef) (fun h => absurd rfl h) (by simp) (by simp) (by simp)
            · have := ha b row hl
              subst this
              obtain ⟨f, f1, f2⟩ := (hr.drop off).cells (flat.drop off).length (Nat.le_refl _)
              rw [add_lit, Nat.zero_add] at f1
              rw [List.take_length] at f2
              refine .pp _ _ f (fun _ => .inr ⟨row, hl⟩) f2.2.1 f1 ?_
              intro j y hj
              have h1 := f2.2.2 j y hj
              have hlt := (List.getElem?_eq_some_iff.1 hj).1
              simp only [Array.getD_eq_getD_getElem?, List.getElem?_toArray, List.getElem?_map, List.getElem?_range hlt, Option.map_some, Option.getD_some] at h1
              exact h1.mono (H.sealExt id)
          · simp only [AV.isPure]
            have := pureL_flatten_of hp off (flat.drop off).length
            rwa [List.take_length] at this
        · cases hs
      · cases hs
    · rename_i id hnp
      split at hs
      · rename_i fz es hb
        split at hs
        · rename_i hp
          cases hs
          obtain ⟨b, ents, clk, hl, h2, h3, h4, h5, h6⟩ := H.mapZ hb
          obtain ⟨hid, r, rfl, hr⟩ := hv.mp_inv
          obtain rfl := hr b false hl
          exact ⟨c.shut id, H.sealExt id, H.shutM hb, (h5.mono (H.sealExt id)).mv h4 (.inr ⟨false, hl⟩) h6, by simpa [AV.isPure] using hp⟩
        · cases hs
      · cases hs
    · cases hs

theorem sealV0_cell {v v' : AV} {h h' : Hp} (hc : v.isCell = true) (e1 : sealV0 h v = some (v', h')) : v'.isCell = true := by
  unfold sealV0 at e1
  split at e1
  · cases e1; split <;> first | rfl | exact hc
  · split at e1
    · split at e1
      · split at e1
        · cases e1; rfl
        · cases e1
      · cases e1
    · split at e1
      · split at e1
        · cases e1; rfl
        · cases e1
      · cases e1
    · split at e1
      · split at e1
        · cases e1; rfl
        · cases e1
      · cases e1
    · cases e1

/-- Cell by cell. -/
theorem sealCells0_ok : ∀ (vs : List AV) {c : Ctx} {h : Hp} (H : HR w c h) (xs : Nat → Value) {vs' : List AV} {h' : Hp}, (∀ j v, vs[j]? = some v → VR w c v (xs j)) → sealCells0 h vs = some (vs', h') →
    ∃ c', Ext w c w c' ∧ HR w c' h' ∧ vs'.length = vs.length ∧ (∀ j v, vs'[j]? = some v → VR w c' v (xs j)) ∧ AV.pureL vs' = true ∧ ((∀ v ∈ vs, v.isCell = true) → ∀ v ∈ vs', v.isCell = true) := by
  intro vs
  induction vs with
  | nil => intro c h H xs vs' h' _ hs; simp only [sealCells0, Option.some.injEq, Prod.mk.injEq] at hs; obtain ⟨rfl, rfl⟩ := hs; exact ⟨c, Ext.refl _ _, H, rfl, by simp, rfl, by simp⟩
  | cons v vs ih =>
    intro c h H xs vs' h' hv hs
    simp only [sealCells0] at hs
    obtain ⟨⟨v1, h1⟩, e1, hs⟩ := Option.bind_eq_some_iff.1 hs
    obtain ⟨⟨vs1, h2⟩, e2, hs⟩ := Option.map_eq_some_iff.1 hs
    cases hs
    obtain ⟨c1, S⟩ := sealV0_ok H (hv 0 v rfl) e1
    obtain ⟨c2, E2, H2, hl, hr, hp, hcell⟩ := ih S.hr (fun j => xs (j + 1)) (fun j u hu => (hv (j + 1) u (by simpa using hu)).mono S.ext) e2
    refine ⟨c2, S.ext.trans E2, H2, by simp [hl], ?_, by simp [AV.pureL, S.pure, hp], ?_⟩
    · intro j u hu
      cases j with
      | zero => simp at hu; subst hu; exact S.vr.mono E2
      | succ j => simp at hu; exact hr j u hu
    · intro hc u hu
      rcases List.mem_cons.1 hu with rfl | hu
      · exact sealV0_cell (hc v List.mem_cons_self) e1
      · exact hcell (fun z hz => hc z (List.mem_cons_of_mem _ hz)) u hu

theorem sealV_ok (H : HR w c h) {v v' : AV} {x : Value} {h' : Hp} (hv : VR w c v x) (hs : sealV h v = some (v', h')) : ∃ c', Sealed w c h v' x c' h' := by
  unfold sealV at hs
  split at hs
  · rename_i id off n sz
    split at hs
    · rename_i fz row flat hb
      split at hs
      · exact sealV0_ok H hv hs
      · obtain ⟨⟨flat', h1⟩, e1, hs⟩ := Option.bind_eq_some_iff.1 hs
        simp only at hs
        split at hs
        · rename_i fz1 row1 flat1 hb1
          split at hs
          · rename_i hc
            obtain ⟨hle, hsz⟩ := hc
            cases hs
            have hlen : ((flat'.drop off).take (n * sz)).length = n * sz := by simp; omega
            obtain ⟨k1, k2, k3⟩ := chunk_ok hsz n _ hlen
            rcases H.read hb with ⟨hl, rfl, _⟩ | ⟨b, cs, e, hl, h4, h5, h6, h7, hr⟩
            · rename_i hnp; simp [AV.pureL] at hnp
            · obtain ⟨c1, E1, H1, l1, r1, p1, q1⟩ := sealCells0_ok flat H (fun j => cs.getD j Go.undef) (fun j u hu => (h5.2 j u hu).2) e1
              refine ⟨c1.shut id, E1.trans (H1.sealExt id), H1.shut hb1, shut_slice H1 hb1 (hv.mono E1) ?_ hle hsz, ?_⟩
              · intro b' hl'
                have hid : id < c.nx := by obtain ⟨_, _, _, _, _, hh⟩ := H.at hl; exact hh
                have : b' = b := by
                  rcases E1.loc id hid with e | e
                  · rw [e, hl] at hl'; cases hl'; rfl
                  · rw [e] at hl'; cases hl'
                subst this
                refine CR.row ⟨by rw [l1]; exact h5.1, fun j u hu => ⟨q1 (fun z hz => ?_) u (List.mem_of_getElem? hu), r1 j u hu⟩⟩ h4
                obtain ⟨i, hi⟩ := List.getElem?_of_mem hz
                exact (h5.2 i z hi).1
              · simp only [AV.isPure]
                rw [← pureLL_flatten, k2]
                exact pureL_flatten_of p1 off _
          · cases hs
        · cases hs
    · cases hs
  · exact sealV0_ok H hv hs

theorem sealV_cell {v v' : AV} {h h' : Hp} (hc : v.isCell = true) (e1 : sealV h v = some (v', h')) : v'.isCell = true := by
  unfold sealV at e1
  split at e1
  · split at e1
    · split at e1
      · exact sealV0_cell hc e1
      · obtain ⟨⟨flat', h1⟩, e1', hs⟩ := Option.bind_eq_some_iff.1 e1
        simp only at hs
        split at hs
        · split at hs
          · cases hs; rfl
          · cases hs
        · cases hs
    · cases e1
  · exact sealV0_cell hc e1

/-- Cell by cell. -/
theorem sealCells_ok : ∀ (vs : List AV) {c : Ctx} {h : Hp} (H : HR w c h) (xs : Nat → Value) {vs' : List AV} {h' : Hp}, (∀ j v, vs[j]? = some v → VR w c v (xs j)) → sealCells h vs = some (vs', h') →
    ∃ c', Ext w c w c' ∧ HR w c' h' ∧ vs'.length = vs.length ∧ (∀ j v, vs'[j]? = some v → VR w c' v (xs j)) ∧ AV.pureL vs' = true ∧ ((∀ v ∈ vs, v.isCell = true) → ∀ v ∈ vs', v.isCell = true) := by
  intro vs
  induction vs with
  | nil => intro c h H xs vs' h' _ hs; simp only [sealCells, Option.some.injEq, Prod.mk.injEq] at hs; obtain ⟨rfl, rfl⟩ := hs; exact ⟨c, Ext.refl _ _, H, rfl, by simp, rfl, by simp⟩
  | cons v vs ih =>
    intro c h H xs vs' h' hv hs
    simp only [sealCells] at hs
    obtain ⟨⟨v1, h1⟩, e1, hs⟩ := Option.bind_eq_some_iff.1 hs
    obtain ⟨⟨vs1, h2⟩, e2, hs⟩ := Option.map_eq_some_iff.1 hs
    cases hs
    obtain ⟨c1, S⟩ := sealV_ok H (hv 0 v rfl) e1
    obtain ⟨c2, E2, H2, hl, hr, hp, hcell⟩ := ih S.hr (fun j => xs (j + 1)) (fun j u hu => (hv (j + 1) u (by simpa using hu)).mono S.ext) e2
    refine ⟨c2, S.ext.trans E2, H2, by simp [hl], ?_, by simp [AV.pureL, S.pure, hp], ?_⟩
    · intro j u hu
      cases j with
      | zero => simp at hu; subst hu; exact S.vr.mono E2
      | succ j => simp at hu; exact hr j u hu
    · intro hc u hu
      rcases List.mem_cons.1 hu with rfl | hu
      · exact sealV_cell (hc v List.mem_cons_self) e1
      · exact hcell (fun z hz => hc z (List.mem_cons_of_mem _ hz)) u hu

theorem sealA_ok (H : HR w c h) {v v' : AV} {x : Value} {h' : Hp} (hv : VR w c v x) (hs : sealA h v = some (v', h')) : ∃ c', Sealed w c h v' x c' h' := by
  unfold sealA at hs
  split at hs
  · rename_i cs
    split at hs
    · rename_i hp; cases hs; exact ⟨c, Ext.refl _ _, H, hv, hp⟩
    · obtain ⟨⟨cs', h1⟩, e1, hs⟩ := Option.map_eq_some_iff.1 hs
      cases hs
      obtain ⟨vs, rfl, hr⟩ := hv.agg_inv
      obtain ⟨c2, E2, H2, hl, hr2, hp, hcell⟩ := sealCells_ok cs H (fun j => vs.getD j Go.undef) hr.2.2 e1
      exact ⟨c2, E2, H2, .agg _ _ (by rw [hl]; exact hr.1) (hcell hr.2.1) hr2, by simpa [AV.isPure] using hp⟩
  · rename_i f cs
    split at hs
    · rename_i hp; cases hs; exact ⟨c, Ext.refl _ _, H, hv, hp⟩
    · obtain ⟨⟨cs', h1⟩, e1, hs⟩ := Option.map_eq_some_iff.1 hs
      cases hs
      cases hv with
      | fn _ _ vs hl hv =>
        obtain ⟨c2, E2, H2, hl2, hr2, hp, hcell⟩ := sealCells_ok cs H (fun j => vs.getD j Go.undef) hv e1
        exact ⟨c2, E2, H2, .fn _ _ _ (by rw [hl2]; exact hl) hr2, by simpa [AV.isPure] using hp⟩
  · exact sealV_ok H hv hs

theorem sealArgs_ok : ∀ (vs : List AV) {c : Ctx} {h : Hp} (H : HR w c h) (xs : Nat → Value) {vs' : List AV} {h' : Hp}, (∀ j v, vs[j]? = some v → VR w c v (xs j)) → sealArgs h vs = some (vs', h') →
    ∃ c', Ext w c w c' ∧ HR w c' h' ∧ vs'.length = vs.length ∧ (∀ j v, vs'[j]? = some v → VR w c' v (xs j)) ∧ AV.pureL vs' = true := by
  intro vs
  induction vs with
  | nil => intro c h H xs vs' h' _ hs; simp only [sealArgs, Option.some.injEq, Prod.mk.injEq] at hs; obtain ⟨rfl, rfl⟩ := hs; exact ⟨c, Ext.refl _ _, H, rfl, by simp, rfl⟩
  | cons v vs ih =>
    intro c h H xs vs' h' hv hs
    simp only [sealArgs] at hs
    obtain ⟨⟨v1, h1⟩, e1, hs⟩ := Option.bind_eq_some_iff.1 hs
    obtain ⟨⟨vs1, h2⟩, e2, hs⟩ := Option.map_eq_some_iff.1 hs
    cases hs
    obtain ⟨c1, S⟩ := sealA_ok H (hv 0 v rfl) e1
    obtain ⟨c2, E2, H2, hl, hr, hp⟩ := ih S.hr (fun j => xs (j + 1)) (fun j u hu => (hv (j + 1) u (by simpa using hu)).mono S.ext) e2
    refine ⟨c2, S.ext.trans E2, H2, by simp [hl], ?_, by simp [AV.pureL, S.pure, hp]⟩
    · intro j u hu
      cases j with
      | zero => simp at hu; subst hu; exact S.vr.mono E2
      | succ j => simp at hu; exact hr j u hu

end Go.Am

