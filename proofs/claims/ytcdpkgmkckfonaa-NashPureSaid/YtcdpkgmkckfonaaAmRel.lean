/-
  How a state of the second machine stands for a state of the model.
-/
import Derived.Test.YtcdpkgmkckfonaaAmRun
import Derived.Below
set_option linter.unusedVariables false
set_option linter.unusedSimpArgs false
namespace Go.Am
open Go Go.RowKit

inductive Loc where
  | dead
  | nilv
  | at_ (b : Nat) (row : Bool)

structure Ctx where
  base : Nat
  nx : Nat
  loc : Nat → Loc
  fz : Nat → Prop
  /-- Blocks that only the machine's bookkeeping knows: nothing reaches them. -/
  pv : Nat → Prop := fun _ => False

def csize (w : World) (b : Nat) : Nat := match w.heap[b]? with | some (.cells cs _ _) => cs.size | _ => 0

def SlOk (w : World) (l : Loc) (off n sz : Nat) (v : Value) : Prop :=
  ∃ A cap, v = .slice A n cap ∧ n ≤ cap ∧ cap ≤ maxLen ∧ (A = none → cap = 0) ∧ (l = .nilv → A = none ∧ cap = 0) ∧
    ∀ b row, l = .at_ b row → 0 < cap ∨ (row = true ∧ off = 0) → A = some ⟨b, off, none⟩ ∧ off + cap * sz ≤ csize w b ∧ (row = true → off + cap * sz = csize w b)
def PtOk (l : Loc) (off : Nat) (v : Value) : Prop := ∃ a, v = .pointer (some a) ∧ ∀ b row, l = .at_ b row → a = ⟨b, off, none⟩
def MpOk (l : Loc) (v : Value) : Prop := ∃ r, v = .map (some r) ∧ ∀ b row, l = .at_ b row → r = b

/-- The stamps of a map's entries: different ones, all before its clock. -/
def BornOk (ents : List MapEntry) (clk : Nat) : Prop := (ents.map (·.born)).Nodup ∧ ∀ x ∈ ents, x.born < clk

inductive VR (w : World) (c : Ctx) : AV → Value → Prop
  | undef (v : Value) : VR w c .undef v
  | skp : VR w c .skp Go.undef
  | bool (b : Bool) : VR w c (.bool b) (.bool b)
  | int (k : IntKind) (n : Int) : VR w c (.int k n) (.int k n)
  | nil : VR w c .nil (.slice none 0 0)
  | lst0 : VR w c (.lst []) (.slice none 0 0)
  | lst (xs : List (List AV)) (a : Addr) (cap sz : Nat) (cv : Nat → Value) (hcap : xs.length ≤ cap ∧ cap ≤ maxLen) (hfz : xs ≠ [] → c.fz a.block) (hu : ∀ x ∈ xs, x.length = sz)
      (hcell : ∀ x ∈ xs.flatten, x.isCell = true) (hc : ∀ j, j < xs.flatten.length → w.cell? (a.add j) = some (cv j))
      (hv : ∀ j x, xs.flatten[j]? = some x → VR w c x (cv j)) : VR w c (.lst xs) (.slice (some a) xs.length cap)
  | sl (id off n sz : Nat) (v : Value) (hid : id < c.nx) (h : SlOk w (c.loc id) off n sz v) : VR w c (.sl id off n sz) v
  | pp (cs : List AV) (a : Addr) (cv : Nat → Value) (hfz : cs ≠ [] → c.fz a.block)
      (hcell : ∀ x ∈ cs, x.isCell = true) (hc : ∀ j, j < cs.length → w.cell? (a.add j) = some (cv j))
      (hv : ∀ j x, cs[j]? = some x → VR w c x (cv j)) : VR w c (.pp cs) (.pointer (some a))
  | ptr (id off : Nat) (v : Value) (hid : id < c.nx) (h : PtOk (c.loc id) off v) : VR w c (.ptr id off) v
  | agg (cs : List AV) (vs : Array Value) (hl : cs.length = vs.size) (hcell : ∀ x ∈ cs, x.isCell = true)
      (hv : ∀ j x, cs[j]? = some x → VR w c x (vs.getD j Go.undef)) : VR w c (.agg cs) (.agg vs)
  | tup (cs : List AV) (vs : Array Value) (hl : cs.length = vs.size)
      (hv : ∀ j x, cs[j]? = some x → VR w c x (vs.getD j Go.undef)) : VR w c (.tup cs) (.tuple vs)
  | fn (f : FuncId) (cs : List AV) (vs : Array Value) (hl : cs.length = vs.size)
      (hv : ∀ j x, cs[j]? = some x → VR w c x (vs.getD j Go.undef)) : VR w c (.fn f cs) (.func (.func f) #[] vs)
  | nilfn : VR w c .nilfn .nilFunc
  | nilmp : VR w c .nilmp (.map none)
  | mp (id : Nat) (v : Value) (hid : id < c.nx) (h : MpOk (c.loc id) v) : VR w c (.mp id) v
  | mv (ks : List Int) (vs : List AV) (r : Nat) (ents : Array MapEntry) (clk : Nat) (hfz : c.fz r) (hb : w.heap[r]? = some (.map ents clk)) (hl : vs.length = ents.size) (hk : ks = ents.toList.map fun e => match e.key with | .int _ n => n | _ => 0)
      (hkk : ∀ e ∈ ents.toList, ∃ n, e.key = .int .i64 n) (hbo : BornOk ents.toList clk)
      (hv : ∀ j x, vs[j]? = some x → VR w c x (ents.getD j default).val) : VR w c (.mv ks vs) (.map (some r))

structure Ext (w : World) (c : Ctx) (w' : World) (c' : Ctx) : Prop where
  base : c'.base = c.base
  nx : c.nx ≤ c'.nx
  below : Below c.base w w'
  fz : ∀ b, c.fz b → c'.fz b
  keep : ∀ b, c.fz b → w'.heap[b]? = w.heap[b]?
  loc : ∀ id, id < c.nx → c'.loc id = c.loc id ∨ c'.loc id = .dead
  size : ∀ id b row, id < c.nx → c'.loc id = .at_ b row → csize w' b = csize w b
  fzb : ∀ b, c'.fz b → c.fz b ∨ c.base ≤ b
  pv : c'.pv = c.pv
  pkeep : ∀ b, c.pv b → w'.heap[b]? = w.heap[b]?

theorem Ext.refl (w : World) (c : Ctx) : Ext w c w c :=
  ⟨rfl, Nat.le_refl _, Below.refl _ _, fun _ h => h, fun _ _ => rfl, fun _ _ => .inl rfl, fun _ _ _ _ _ => rfl, fun _ hb => .inl hb, rfl, fun _ _ => rfl⟩

theorem Ext.trans {w w' w'' : World} {c c' c'' : Ctx} (h : Ext w c w' c') (k : Ext w' c' w'' c'') : Ext w c w'' c'' := by
  refine ⟨k.base.trans h.base, Nat.le_trans h.nx k.nx, h.below.trans (h.base ▸ k.below), fun b hb => k.fz b (h.fz b hb), fun b hb => (k.keep b (h.fz b hb)).trans (h.keep b hb), ?_, ?_, ?_, k.pv.trans h.pv, fun b hb => (k.pkeep b (by rw [h.pv]; exact hb)).trans (h.pkeep b hb)⟩
  · intro id hid
    rcases k.loc id (Nat.lt_of_lt_of_le hid h.nx) with e | e
    · rw [e]; exact h.loc id hid
    · exact .inr e
  · intro id b row hid hl
    have h1 := k.size id b row (Nat.lt_of_lt_of_le hid h.nx) hl
    have h2 : c'.loc id = .at_ b row := by
      rcases k.loc id (Nat.lt_of_lt_of_le hid h.nx) with e | e
      · rw [← e]; exact hl
      · rw [e] at hl; cases hl
    rw [h1]; exact h.size id b row hid h2
  · intro b hb
    rcases k.fzb b hb with h1 | h1
    · exact h.fzb b h1
    · rw [h.base] at h1; exact .inr h1

theorem add_block (a : Addr) (j : Nat) : (a.add j).block = a.block := by unfold Addr.add; split <;> rfl
theorem add_add (a : Addr) (i j : Nat) : (a.add i).add j = a.add (i + j) := by
  unfold Addr.add
  by_cases hi : i = 0
  · subst hi; simp
  · by_cases hj : j = 0
    · subst hj; simp [hi]
    · have : i + j ≠ 0 := by omega
      simp [hi, hj, this, Nat.add_assoc]
theorem add_lit (b off j : Nat) : (⟨b, off, none⟩ : Addr).add j = ⟨b, off + j, none⟩ := by unfold Addr.add; split <;> simp_all

theorem SlOk.mono {w w' : World} {l l' : Loc} {off n sz : Nat} {v : Value} (h : SlOk w l off n sz v) (hl : l' = l ∨ l' = .dead) (hs : ∀ b row, l' = .at_ b row → csize w' b = csize w b) : SlOk w' l' off n sz v := by
  obtain ⟨A, cap, e, h1, h2, h3, h4, h5⟩ := h
  refine ⟨A, cap, e, h1, h2, h3, ?_, ?_⟩
  · intro hn
    rcases hl with rfl | rfl
    · exact h4 hn
    · cases hn
  · intro b row hb hc
    rcases hl with rfl | rfl
    · rw [hs b row hb]; exact h5 b row hb hc
    · cases hb
theorem PtOk.mono {l l' : Loc} {off : Nat} {v : Value} (h : PtOk l off v) (hl : l' = l ∨ l' = .dead) : PtOk l' off v := by
  obtain ⟨a, e, h1⟩ := h
  refine ⟨a, e, fun b row hb => ?_⟩
  rcases hl with rfl | rfl
  · exact h1 b row hb
  · cases hb
theorem MpOk.mono {l l' : Loc} {v : Value} (h : MpOk l v) (hl : l' = l ∨ l' = .dead) : MpOk l' v := by
  obtain ⟨r, e, h1⟩ := h
  refine ⟨r, e, fun b row hb => ?_⟩
  rcases hl with rfl | rfl
  · exact h1 b row hb
  · cases hb

theorem flatten_ne {α : Type} {xs : List (List α)} {j : Nat} (h : j < xs.flatten.length) : xs ≠ [] := by
  rintro rfl; simp at h

theorem VR.mono {w w' : World} {c c' : Ctx} {v : AV} {x : Value} (h : VR w c v x) (e : Ext w c w' c') : VR w' c' v x := by
  induction h with
  | undef v => exact .undef v
  | skp => exact .skp
  | bool b => exact .bool b
  | int k n => exact .int k n
  | nil => exact .nil
  | lst0 => exact .lst0
  | lst xs a cap sz cv hcap hfz hu hcell hc hv ih =>
    refine .lst xs a cap sz cv hcap (fun hn => e.fz _ (hfz hn)) hu hcell ?_ ih
    intro j hj
    rw [World.cell?_of_block (w := w) (by rw [add_block]; exact e.keep _ (hfz (flatten_ne hj)))]
    exact hc j hj
  | sl id off n sz v hid h => exact .sl id off n sz v (Nat.lt_of_lt_of_le hid e.nx) (h.mono (e.loc id hid) (fun b row hb => e.size id b row hid hb))
  | pp cs a cv hfz hcell hc hv ih =>
    refine .pp cs a cv (fun hn => e.fz _ (hfz hn)) hcell ?_ ih
    intro j hj
    rw [World.cell?_of_block (w := w) (by rw [add_block]; exact e.keep _ (hfz (by rintro rfl; simp at hj)))]
    exact hc j hj
  | ptr id off v hid h => exact .ptr id off v (Nat.lt_of_lt_of_le hid e.nx) (h.mono (e.loc id hid))
  | agg cs vs hl hcell hv ih => exact .agg cs vs hl hcell ih
  | tup cs vs hl hv ih => exact .tup cs vs hl ih
  | fn f cs vs hl hv ih => exact .fn f cs vs hl ih
  | nilfn => exact .nilfn
  | nilmp => exact .nilmp
  | mp id v hid h => exact .mp id v (Nat.lt_of_lt_of_le hid e.nx) (h.mono (e.loc id hid))
  | mv ks vs r ents clk hfz hb hl hk hkk hbo hv ih => exact .mv ks vs r ents clk (e.fz _ hfz) ((e.keep _ hfz).trans hb) hl hk hkk hbo ih

/-- Values that name no block mean the same whatever the blocks. -/
structure Keep (w : World) (c : Ctx) (w' : World) (c' : Ctx) : Prop where
  fz : ∀ b, c.fz b → c'.fz b
  keep : ∀ b, c.fz b → w'.heap[b]? = w.heap[b]?

theorem pureL_get {cs : List AV} (h : AV.pureL cs = true) : ∀ {j : Nat} {x : AV}, cs[j]? = some x → x.isPure = true := by
  induction cs with
  | nil => intro j x hx; simp at hx
  | cons v vs ih =>
    intro j x hx
    simp only [AV.pureL, Bool.and_eq_true] at h
    cases j with
    | zero => simp at hx; subst hx; exact h.1
    | succ j => simp at hx; exact ih h.2 hx
theorem pureL_append (a b : List AV) : AV.pureL (a ++ b) = (AV.pureL a && AV.pureL b) := by
  induction a with
  | nil => simp [AV.pureL]
  | cons v vs ih => simp [AV.pureL, ih, Bool.and_assoc]
theorem pureLL_flatten (xs : List (List AV)) : AV.pureL xs.flatten = AV.pureLL xs := by
  induction xs with
  | nil => simp [AV.pureL, AV.pureLL]
  | cons v vs ih => simp [AV.pureLL, pureL_append, ih]

theorem VR.pure_mono {w w' : World} {c c' : Ctx} {v : AV} {x : Value} (h : VR w c v x) (e : Keep w c w' c') : v.isPure = true → VR w' c' v x := by
  induction h with
  | undef v => intro hp; simp [AV.isPure] at hp
  | skp => intro hp; simp [AV.isPure] at hp
  | bool b => intro _; exact .bool b
  | int k n => intro _; exact .int k n
  | nil => intro _; exact .nil
  | lst0 => intro _; exact .lst0
  | lst xs a cap sz cv hcap hfz hu hcell hc hv ih =>
    intro hp
    simp only [AV.isPure] at hp
    rw [← pureLL_flatten] at hp
    refine .lst xs a cap sz cv hcap (fun hn => e.fz _ (hfz hn)) hu hcell ?_ (fun j x hx => ih j x hx (pureL_get hp hx))
    intro j hj
    rw [World.cell?_of_block (w := w) (by rw [add_block]; exact e.keep _ (hfz (flatten_ne hj)))]
    exact hc j hj
  | sl id off n sz v hid h => intro hp; simp [AV.isPure] at hp
  | pp cs a cv hfz hcell hc hv ih =>
    intro hp
    simp only [AV.isPure] at hp
    refine .pp cs a cv (fun hn => e.fz _ (hfz hn)) hcell ?_ (fun j x hx => ih j x hx (pureL_get hp hx))
    intro j hj
    rw [World.cell?_of_block (w := w) (by rw [add_block]; exact e.keep _ (hfz (by rintro rfl; simp at hj)))]
    exact hc j hj
  | ptr id off v hid h => intro hp; simp [AV.isPure] at hp
  | agg cs vs hl hcell hv ih =>
    intro hp
    simp only [AV.isPure] at hp
    exact .agg cs vs hl hcell (fun j x hx => ih j x hx (pureL_get hp hx))
  | tup cs vs hl hv ih =>
    intro hp
    simp only [AV.isPure] at hp
    exact .tup cs vs hl (fun j x hx => ih j x hx (pureL_get hp hx))
  | fn f cs vs hl hv ih =>
    intro hp
    simp only [AV.isPure] at hp
    exact .fn f cs vs hl (fun j x hx => ih j x hx (pureL_get hp hx))
  | nilfn => intro _; exact .nilfn
  | nilmp => intro _; exact .nilmp
  | mp id v hid h => intro hp; simp [AV.isPure] at hp
  | mv ks vs r ents clk hfz hb hl hk hkk hbo hv ih =>
    intro hp
    simp only [AV.isPure] at hp
    exact .mv ks vs r ents clk (e.fz _ hfz) ((e.keep _ hfz).trans hb) hl hk hkk hbo (fun j x hx => ih j x hx (pureL_get hp hx))

/-! ### Blocks -/
def MR (w : World) (c : Ctx) (es : List (Int × AV)) (ents : List MapEntry) : Prop :=
  es.length = ents.length ∧ ∀ (j : Nat) (k : Int) (v : AV), es[j]? = some (k, v) → ∃ e, ents[j]? = some e ∧ e.key = .int .i64 k ∧ VR w c v e.val

def CR (w : World) (c : Ctx) (flat : List AV) (cs : Array Value) : Prop :=
  flat.length ≤ cs.size ∧ ∀ (j : Nat) (x : AV), flat[j]? = some x → x.isCell = true ∧ VR w c x (cs.getD j Go.undef)

def BR (w : World) (c : Ctx) (l : Loc) : Blk → Prop
  | .cells fz row flat => match l with
    | .dead => False
    | .nilv => flat = [] ∧ row = true
    | .at_ b r => r = row ∧ c.base ≤ b ∧ (fz = true ↔ c.fz b) ∧ ∃ cs e, w.heap[b]? = some (.cells cs e (0, 0)) ∧ CR w c flat cs
  | .mp fz es => ∃ b, l = .at_ b false ∧ c.base ≤ b ∧ (fz = true ↔ c.fz b) ∧ ∃ ents clk, w.heap[b]? = some (.map ents clk) ∧ MR w c es ents.toList ∧ BornOk ents.toList clk
  | .it => ∃ b, l = .at_ b false ∧ c.base ≤ b ∧ c.fz b ∧ ∃ m s sn lt, w.heap[b]? = some (.mapIter m s sn lt)

structure HR (w : World) (c : Ctx) (h : Hp) : Prop where
  nx : c.nx = h.nx
  dead : ∀ id, h.bl id = none → c.loc id = .dead
  hi : ∀ id, h.nx ≤ id → h.bl id = none
  blk : ∀ id b, h.bl id = some b → BR w c (c.loc id) b
  inj : ∀ i j b r s, c.loc i = .at_ b r → c.loc j = .at_ b s → i = j
  fzlt : ∀ b, c.fz b → b < w.heap.size
  base : c.base ≤ w.heap.size
  priv : ∀ b, c.pv b → b < w.heap.size ∧ ¬ c.fz b ∧ ∀ id r, c.loc id ≠ .at_ b r

theorem CR.mono {w w' : World} {c c' : Ctx} {flat : List AV} {cs : Array Value} (h : CR w c flat cs) (e : Ext w c w' c') : CR w' c' flat cs :=
  ⟨h.1, fun j x hx => ⟨(h.2 j x hx).1, (h.2 j x hx).2.mono e⟩⟩
theorem MR.mono {w w' : World} {c c' : Ctx} {es : List (Int × AV)} {ents : List MapEntry} (h : MR w c es ents) (e : Ext w c w' c') : MR w' c' es ents :=
  ⟨h.1, fun j k v hj => let ⟨x, h1, h2, h3⟩ := h.2 j k v hj; ⟨x, h1, h2, h3.mono e⟩⟩
theorem BR.mono {w w' : World} {c c' : Ctx} {l : Loc} {b : Blk} (h : BR w c l b) (e : Ext w c w' c') (hk : ∀ n r, l = .at_ n r → w'.heap[n]? = w.heap[n]?) (hf : ∀ n r, l = .at_ n r → (c'.fz n ↔ c.fz n)) : BR w' c' l b := by
  cases b with
  | cells fz row flat =>
    cases l with
    | dead => exact h
    | nilv => exact h
    | at_ b r =>
      obtain ⟨h1, h2, h3, cs, et, h4, h5⟩ := h
      exact ⟨h1, e.base ▸ h2, h3.trans (hf b r rfl).symm, cs, et, (hk b r rfl).trans h4, h5.mono e⟩
  | mp fz es =>
    obtain ⟨b, h1, h2, h3, ents, clk, h4, h5⟩ := h
    exact ⟨b, h1, e.base ▸ h2, h3.trans (hf b false h1).symm, ents, clk, (hk b false h1).trans h4, h5.1.mono e, h5.2⟩
  | it =>
    obtain ⟨b, h1, h2, h3, m, s, sn, lt, h4⟩ := h
    exact ⟨b, h1, e.base ▸ h2, e.fz b h3, m, s, sn, lt, (hk b false h1).trans h4⟩

theorem BR.lt {w : World} {c : Ctx} {l : Loc} {b : Blk} (h : BR w c l b) : ∀ n r, l = .at_ n r → c.base ≤ n ∧ n < w.heap.size := by
  intro n r hl
  subst hl
  cases b with
  | cells fz row flat =>
    obtain ⟨h1, h2, h3, cs, et, h4, h5⟩ := h
    exact ⟨h2, (Array.getElem?_eq_some_iff.1 h4).1⟩
  | mp fz es =>
    obtain ⟨b, h1, h2, h3, ents, clk, h4, h5⟩ := h
    cases h1
    exact ⟨h2, (Array.getElem?_eq_some_iff.1 h4).1⟩
  | it =>
    obtain ⟨b, h1, h2, h3, m, s, sn, lt, h4⟩ := h
    cases h1
    exact ⟨h2, (Array.getElem?_eq_some_iff.1 h4).1⟩

theorem HR.at {w : World} {c : Ctx} {h : Hp} (H : HR w c h) {id n : Nat} {r : Bool} (hl : c.loc id = .at_ n r) : ∃ b, h.bl id = some b ∧ BR w c (.at_ n r) b ∧ c.base ≤ n ∧ n < w.heap.size ∧ id < c.nx := by
  cases hb : h.bl id with
  | none => rw [H.dead id hb] at hl; cases hl
  | some b =>
    have hB := H.blk id b hb
    rw [hl] at hB
    refine ⟨b, rfl, hB, (hB.lt n r rfl).1, (hB.lt n r rfl).2, ?_⟩
    rcases Nat.lt_or_ge id c.nx with h1 | h1
    · exact h1
    · rw [H.hi id (H.nx ▸ h1)] at hb; cases hb

/-- The world has grown, and nothing that was there has changed. -/
theorem Ext.grow {w w' : World} {c : Ctx} {h : Hp} (H : HR w c h) (hb : Below w.heap.size w w') (fz' : Nat → Prop) (h1 : ∀ b, c.fz b → fz' b) (h2 : ∀ b, fz' b → c.fz b ∨ (w.heap.size ≤ b ∧ b < w'.heap.size)) :
    Ext w c w' { c with fz := fz' } :=
  ⟨rfl, Nat.le_refl _, hb.mono H.base, h1, fun b hf => hb.block b (H.fzlt b hf), fun _ _ => .inl rfl, fun id b row hid hl => by
    obtain ⟨_, _, _, _, h2, _⟩ := H.at hl
    simp only [csize, hb.block b h2], fun b hf => by
    rcases h2 b hf with h | h
    · exact .inl h
    · exact .inr (Nat.le_trans H.base h.1), rfl, fun b hp => hb.block b (H.priv b hp).1⟩
theorem HR.grow {w w' : World} {c : Ctx} {h : Hp} (H : HR w c h) (hb : Below w.heap.size w w') (fz' : Nat → Prop) (h1 : ∀ b, c.fz b → fz' b) (h2 : ∀ b, fz' b → c.fz b ∨ (w.heap.size ≤ b ∧ b < w'.heap.size)) :
    HR w' { c with fz := fz' } h := by
  have E := Ext.grow H hb fz' h1 h2
  refine ⟨H.nx, H.dead, H.hi, ?_, H.inj, ?_, Nat.le_trans H.base hb.size, fun b hp => ⟨Nat.lt_of_lt_of_le (H.priv b hp).1 hb.size, fun hf => ?_, (H.priv b hp).2.2⟩⟩
  · intro id b hbl
    refine (H.blk id b hbl).mono E ?_ ?_
    · intro n r hl
      exact hb.block n ((H.blk id b hbl).lt n r hl).2
    · intro n r hl
      have hlt := ((H.blk id b hbl).lt n r hl).2
      constructor
      · intro hf
        rcases h2 n hf with h | h
        · exact h
        · exact absurd h.1 (by omega)
      · exact h1 n
  · intro b hf
    rcases h2 b hf with h | h
    · exact Nat.lt_of_lt_of_le (H.fzlt b h) hb.size
    · exact h.2
  · have hlt := (H.priv b hp).1
    rcases h2 b hf with h | h
    · exact (H.priv b hp).2.1 h
    · omega

end Go.Am

