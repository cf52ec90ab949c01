/-
  What a call hands back.
-/
import Derived.Test.YtcdpkgmkckfonaaAmWrite
set_option linter.unusedVariables false
set_option linter.unusedSimpArgs false
namespace Go.Am
open Go Go.RowKit

variable {P : Program} {w : World} {c : Ctx} {h : Hp}

/-- No blocks but frozen ones. -/
def pctx (fz : Nat → Prop) : Ctx := ⟨0, 0, fun _ => .dead, fz, fun _ => False⟩

theorem VR.toP {v : AV} {x : Value} (hv : VR w c v x) (hp : v.isPure = true) : VR w (pctx c.fz) v x := hv.pure_mono ⟨fun _ h => h, fun _ _ => rfl⟩ hp
theorem VR.ofP {v : AV} {x : Value} {fz : Nat → Prop} (hv : VR w (pctx fz) v x) (hp : v.isPure = true) (hf : ∀ b, fz b → c.fz b) : VR w c v x := hv.pure_mono ⟨hf, fun _ _ => rfl⟩ hp

/-- What is handed over whole, with the blocks it lies in. -/
inductive GotF (w : World) (B : Nat) (fz : Nat → Prop) : Nat → AV → Value → List Nat → Prop
  | pure {k : Nat} {v : AV} {x : Value} : v.isPure = true → v.isCell = true → VR w (pctx fz) v x → GotF w B fz k v x []
  | nil {k sz : Nat} : 0 < sz → GotF w B fz (k + 1) (.fresh sz []) (.slice none 0 0) []
  | slice {k sz n cap b : Nat} {flat : List AV} {cs : Array Value} {e : TypeId} {bss : Nat → List Nat} : 0 < sz → n ≤ cap → cap ≤ maxLen → flat.length = n * sz → B ≤ b → b < w.heap.size → ¬ fz b → w.heap[b]? = some (.cells cs e (0, 0)) →
      cs.size = cap * sz → flat.length ≤ cs.size → (∀ j y, flat[j]? = some y → GotF w B fz k y (cs.getD j Go.undef) (bss j)) → (∀ i j, i ≠ j → ∀ a ∈ bss i, a ∉ bss j) → (∀ j, b ∉ bss j) →
      GotF w B fz (k + 1) (.fresh sz flat) (.slice (some ⟨b, 0, none⟩) n cap) (b :: (List.range flat.length).flatMap bss)
def GotW (w : World) (B : Nat) (fz : Nat → Prop) (v : AV) (x : Value) (bs : List Nat) : Prop :=
  (∃ cs vs, ∃ bss : Nat → List Nat, v = .agg cs ∧ x = .agg vs ∧ cs.length = vs.size ∧ (∀ j y, cs[j]? = some y → GotF w B fz 3 y (vs.getD j Go.undef) (bss j)) ∧ (∀ i j, i ≠ j → ∀ a ∈ bss i, a ∉ bss j) ∧ bs = (List.range cs.length).flatMap bss) ∨
  ((∀ cs, v ≠ .agg cs) ∧ GotF w B fz 4 v x bs)

def Got (w : World) (B : Nat) (fz : Nat → Prop) (v : AV) (x : Value) (bs : List Nat) : Prop :=
  (∃ sz flat, v = .fresh sz flat ∧ 0 < sz ∧ AV.pureL flat = true ∧ ((flat = [] ∧ x = .slice none 0 0 ∧ bs = []) ∨
    ∃ b n cap cs e, x = .slice (some ⟨b, 0, none⟩) n cap ∧ n ≤ cap ∧ cap ≤ maxLen ∧ flat.length = n * sz ∧ B ≤ b ∧ b < w.heap.size ∧ ¬ fz b ∧ w.heap[b]? = some (.cells cs e (0, 0)) ∧ cs.size = cap * sz ∧ CR w (pctx fz) flat cs ∧ bs = [b])) ∨
  (v.isPure = true ∧ VR w (pctx fz) v x ∧ bs = []) ∨ (∃ u, v = .own u ∧ GotW w B fz u x bs)

theorem freshAll_ok (H : HR w c h) {f : List Nat → AV → Option (AV × List Nat)} {G : AV → Value → List Nat → Prop}
    (hf : ∀ used v v' used' x, VR w c v x → f used v = some (v', used') → ∃ bs, G v' x bs ∧ (∀ b ∈ bs, ∃ id, id ∉ used ∧ id ∈ used' ∧ ∃ r, c.loc id = .at_ b r) ∧ (∀ i ∈ used, i ∈ used')) :
    ∀ (vs : List AV) (xs : Nat → Value) (used : List Nat) (vs' : List AV) (used' : List Nat), (∀ j v, vs[j]? = some v → VR w c v (xs j)) → freshAll f used vs = some (vs', used') →
      vs'.length = vs.length ∧ ∃ bss : Nat → List Nat, (∀ j v, vs'[j]? = some v → G v (xs j) (bss j)) ∧ (∀ j, ∀ b ∈ bss j, ∃ id, id ∉ used ∧ id ∈ used' ∧ ∃ r, c.loc id = .at_ b r) ∧ (∀ j k, j ≠ k → ∀ b ∈ bss j, b ∉ bss k) ∧ (∀ i ∈ used, i ∈ used') := by
  intro vs
  induction vs with
  | nil =>
    intro xs used vs' used' hv he
    simp only [freshAll, Option.some.injEq, Prod.mk.injEq] at he
    obtain ⟨rfl, rfl⟩ := he
    exact ⟨rfl, fun _ => [], by simp, by simp, by simp, fun _ h => h⟩
  | cons v vs ih =>
    intro xs used vs' used' hv he
    simp only [freshAll] at he
    obtain ⟨⟨v1, u1⟩, e1, he⟩ := Option.bind_eq_some_iff.1 he
    obtain ⟨⟨vs1, u2⟩, e2, he⟩ := Option.map_eq_some_iff.1 he
    cases he
    obtain ⟨bs, g, gu, gs⟩ := hf _ _ _ _ _ (hv 0 v rfl) e1
    obtain ⟨hl, bss, G', GU, GD, GS⟩ := ih (fun j => xs (j + 1)) u1 vs1 u2 (fun j u hu => hv (j + 1) u (by simpa using hu)) e2
    refine ⟨by simp [hl], fun j => match j with | 0 => bs | j + 1 => bss j, ?_, ?_, ?_, fun i hi => GS i (gs i hi)⟩
    · intro j u hu
      cases j with
      | zero => simp at hu; subst hu; exact g
      | succ j => simp at hu; exact G' j u hu
    · intro j b hb
      cases j with
      | zero => obtain ⟨id, h1, h2, h3⟩ := gu b hb; exact ⟨id, h1, GS id h2, h3⟩
      | succ j => obtain ⟨id, h1, h2, h3⟩ := GU j b hb; exact ⟨id, fun h => h1 (gs id h), h2, h3⟩
    · intro j k hjk b hb hb'
      cases j with
      | zero =>
        cases k with
        | zero => exact hjk rfl
        | succ k =>
          obtain ⟨id, _, hin, r, hl1⟩ := gu b hb
          obtain ⟨id', hn', _, r', hl2⟩ := GU k b hb'
          have := H.inj id id' b r r' hl1 hl2
          subst this
          exact hn' hin
      | succ j =>
        cases k with
        | zero =>
          obtain ⟨id, _, hin, r, hl1⟩ := gu b hb'
          obtain ⟨id', hn', _, r', hl2⟩ := GU j b hb
          have := H.inj id id' b r r' hl1 hl2
          subst this
          exact hn' hin
        | succ k => exact GD j k (fun h => hjk (by rw [h])) b hb hb'
theorem freshN_ok (H : HR w c h) : ∀ (k : Nat) (used : List Nat) (v v' : AV) (used' : List Nat) (x : Value), VR w c v x → freshN h k used v = some (v', used') →
    ∃ bs, GotF w c.base c.fz k v' x bs ∧ (∀ b ∈ bs, ∃ id, id ∉ used ∧ id ∈ used' ∧ ∃ r, c.loc id = .at_ b r) ∧ (∀ i ∈ used, i ∈ used') := by
  intro k
  induction k with
  | zero =>
    intro used v v' used' x hv he
    simp only [freshN] at he
    split at he
    · rename_i hp
      rw [Bool.and_eq_true] at hp
      cases he
      exact ⟨[], .pure hp.1 hp.2 (hv.toP hp.1), by simp, fun _ h => h⟩
    · cases he
  | succ k ih =>
    intro used v v' used' x hv he
    simp only [freshN] at he
    split at he
    · rename_i hp
      rw [Bool.and_eq_true] at hp
      cases he
      exact ⟨[], .pure hp.1 hp.2 (hv.toP hp.1), by simp, fun _ h => h⟩
    · split at he
      · rename_i id off n sz _
        split at he
        · rename_i flat hb
          split at he
          · rename_i hc
            obtain ⟨rfl, hpos, hl, hnu⟩ := hc
            obtain ⟨⟨flat', u'⟩, e1, he⟩ := Option.map_eq_some_iff.1 he
            cases he
            obtain ⟨hid, A, cap, rfl, g1, g2, g3, g4, g5⟩ := hv.sl_inv
            rcases H.read hb with ⟨hloc, rfl, _⟩ | ⟨b, cs, e, hloc, h4, h5, h6, h7, hr⟩
            · obtain ⟨rfl, rfl⟩ := g4 hloc
              have : n = 0 := by omega
              subst this
              simp only [freshAll, Option.some.injEq, Prod.mk.injEq] at e1
              obtain ⟨rfl, rfl⟩ := e1
              exact ⟨[], .nil hpos, by simp, fun _ h => List.mem_cons_of_mem _ h⟩
            · obtain ⟨q1, q2, q3⟩ := g5 b true hloc (.inr ⟨rfl, rfl⟩)
              subst q1
              have hcs : csize w b = cs.size := by simp [csize, h4]
              have q3' := q3 rfl
              rw [hcs, Nat.zero_add] at q3'
              obtain ⟨hl', bss, G, GU, GD, GS⟩ := freshAll_ok H ih flat (fun j => cs.getD j Go.undef) (id :: used) flat' u' (fun j y hj => (h5.2 j y hj).2) e1
              have hnb : ∀ j, b ∉ bss j := by
                intro j hbj
                obtain ⟨id', hn', _, r', hl2⟩ := GU j b hbj
                have := H.inj id id' b _ r' hloc hl2
                subst this
                exact hn' List.mem_cons_self
              refine ⟨_, .slice (cap := cap) (b := b) (bss := bss) hpos g1 g2 (by rw [hl', hl]) h7 (Array.getElem?_eq_some_iff.1 h4).1 (fun hf => by have := h6.2 hf; cases this) h4 q3'.symm (by rw [hl']; exact h5.1) G GD hnb, ?_, fun i hi => GS i (List.mem_cons_of_mem _ hi)⟩
              intro b' hb'
              rcases List.mem_cons.1 hb' with rfl | hb'
              · exact ⟨id, hnu, GS id List.mem_cons_self, _, hloc⟩
              · obtain ⟨j, _, hj⟩ := List.mem_flatMap.1 hb'
                obtain ⟨id', hn', hi', r', hl2⟩ := GU j b' hj
                exact ⟨id', fun h => hn' (List.mem_cons_of_mem _ h), hi', r', hl2⟩
          · cases he
        · cases he
      · cases he
theorem freshV_ok (H : HR w c h) {used used' : List Nat} {v v' : AV} {x : Value} (hv : VR w c v x) (he : freshV h used v = some (v', used')) :
    ∃ bs, Got w c.base c.fz v' x bs ∧ (∀ b ∈ bs, ∃ id, id ∉ used ∧ id ∈ used' ∧ ∃ r, c.loc id = .at_ b r) ∧ (∀ i ∈ used, i ∈ used') := by
  unfold freshV at he
  split at he
  · rename_i cs
    obtain ⟨⟨cs', u'⟩, e1, he⟩ := Option.map_eq_some_iff.1 he
    cases he
    obtain ⟨vs, rfl, hr⟩ := hv.agg_inv
    obtain ⟨hl', bss, G, GU, GD, GS⟩ := freshAll_ok H (freshN_ok H 3) cs (fun j => vs.getD j Go.undef) used cs' _ hr.2.2 e1
    refine ⟨_, .inr (.inr ⟨_, rfl, .inl ⟨cs', vs, bss, rfl, rfl, by rw [hl', hr.1], G, GD, rfl⟩⟩), ?_, GS⟩
    intro b hb
    obtain ⟨j, _, hj⟩ := List.mem_flatMap.1 hb
    exact GU j b hj
  · obtain ⟨⟨v1, u'⟩, e1, he⟩ := Option.map_eq_some_iff.1 he
    cases he
    obtain ⟨bs, G, GU, GS⟩ := freshN_ok H 4 used _ v1 _ x hv e1
    refine ⟨bs, .inr (.inr ⟨_, rfl, .inr ⟨fun cs hcs => ?_, G⟩⟩), GU, GS⟩
    subst hcs
    cases G with
    | pure _ hc _ => simp [AV.isCell] at hc
  · cases he

def ResOk (w : World) (B : Nat) (fz : Nat → Prop) (r : AV) (x : Value) : Prop :=
  (∃ vs xs, ∃ bss : Nat → List Nat, r = .tup vs ∧ x = .tuple xs ∧ vs.length = xs.size ∧ (∀ j v, vs[j]? = some v → Got w B fz v (xs.getD j Go.undef) (bss j)) ∧ ∀ j k, j ≠ k → ∀ b ∈ bss j, b ∉ bss k) ∨
  ((∀ vs, r ≠ .tup vs) ∧ ∃ bs, Got w B fz r x bs)

theorem exportV_own (H : HR w c h) {kn : Bool} {t : TypeId} {used used' : List Nat} {v v' : AV} {h' : Hp} {x : Value} (hv : VR w c v x) (he : exportV P true kn t h used v = some (v', h', used')) :
    h' = h ∧ ∃ bs, Got w c.base c.fz v' x bs ∧ (∀ b ∈ bs, ∃ id, id ∉ used ∧ id ∈ used' ∧ ∃ r, c.loc id = .at_ b r) ∧ (∀ i ∈ used, i ∈ used') := by
  unfold exportV at he
  simp only [if_true] at he
  split at he
  · split at he
    · rename_i hp
      cases he
      exact ⟨rfl, [], .inr (.inl ⟨hp, hv.toP hp, rfl⟩), by simp, fun _ h => h⟩
    · obtain ⟨⟨v1, u1⟩, e1, he⟩ := Option.map_eq_some_iff.1 he
      cases he
      exact ⟨rfl, freshV_ok H hv e1⟩
  split at he
  · split at he
    · rename_i e hu
      obtain ⟨sz, hs, he⟩ := Option.bind_eq_some_iff.1 he
      split at he
      · rename_i hpos
        cases he
        exact ⟨rfl, [], .inl ⟨sz, [], rfl, hpos, rfl, .inl ⟨rfl, hv.nil_inv, rfl⟩⟩, by simp, fun _ h => h⟩
      · cases he
    · cases he
  · rename_i id off n sz
    split at he
    · rename_i flat hb
      split at he
      · rename_i hc
        obtain ⟨hp, rfl, hpos, hl, hnu⟩ := hc
        cases he
        refine ⟨rfl, ?_⟩
        obtain ⟨hid, A, cap, rfl, g1, g2, g3, g4, g5⟩ := hv.sl_inv
        rcases H.read hb with ⟨hloc, rfl, _⟩ | ⟨b, cs, e, hloc, h4, h5, h6, h7, hr⟩
        · obtain ⟨rfl, rfl⟩ := g4 hloc
          have : n = 0 := by omega
          subst this
          exact ⟨[], .inl ⟨sz, [], rfl, hpos, rfl, .inl ⟨rfl, rfl, rfl⟩⟩, by simp, fun _ h => List.mem_cons_of_mem _ h⟩
        · obtain ⟨q1, q2, q3⟩ := g5 b true hloc (.inr ⟨rfl, rfl⟩)
          subst q1
          have hcs : csize w b = cs.size := by simp [csize, h4]
          have q3' := q3 rfl
          rw [hcs, Nat.zero_add] at q3'
          refine ⟨[b], .inl ⟨sz, flat, rfl, hpos, hp, .inr ⟨b, n, cap, cs, e, rfl, g1, g2, hl, h7, (Array.getElem?_eq_some_iff.1 h4).1, (fun hf => by have := h6.2 hf; cases this), h4, q3'.symm, ?_, rfl⟩⟩, ?_, fun _ h => List.mem_cons_of_mem _ h⟩
          · exact ⟨h5.1, fun j y hj => ⟨(h5.2 j y hj).1, (h5.2 j y hj).2.toP (pureL_get hp hj)⟩⟩
          · intro b' hb'
            simp only [List.mem_singleton] at hb'
            subst hb'
            exact ⟨id, hnu, List.mem_cons_self, _, hloc⟩
      · cases he
    · cases he
  · split at he
    · rename_i hp
      cases he
      exact ⟨rfl, [], .inr (.inl ⟨hp, hv.toP hp, rfl⟩), by simp, fun _ h => h⟩
    · cases he

theorem exportL_own (H : HR w c h) {kn : Bool} : ∀ (ts : List TypeId) (vs : List AV) (xs : Nat → Value) (used : List Nat) (vs' : List AV), (∀ j v, vs[j]? = some v → VR w c v (xs j)) → exportL P true kn h used ts vs = some vs' →
    vs'.length = vs.length ∧ ∃ bss : Nat → List Nat, (∀ j v, vs'[j]? = some v → Got w c.base c.fz v (xs j) (bss j)) ∧ (∀ j, ∀ b ∈ bss j, ∃ id, id ∉ used ∧ ∃ r, c.loc id = .at_ b r) ∧ (∀ j k, j ≠ k → ∀ b ∈ bss j, b ∉ bss k) := by
  intro ts
  induction ts with
  | nil =>
    intro vs xs used vs' hv he
    cases vs with
    | nil => simp only [exportL, Option.some.injEq] at he; subst he; exact ⟨rfl, fun _ => [], by simp, by simp, by simp⟩
    | cons v vs => simp [exportL] at he
  | cons t ts ih =>
    intro vs xs used vs' hv he
    cases vs with
    | nil => simp [exportL] at he
    | cons v vs =>
      simp only [exportL] at he
      obtain ⟨⟨v1, h1, u1⟩, e1, he⟩ := Option.bind_eq_some_iff.1 he
      obtain ⟨vs1, e2, he⟩ := Option.map_eq_some_iff.1 he
      cases he
      obtain ⟨rfl, bs, g, gu, gs⟩ := exportV_own H (hv 0 v rfl) e1
      obtain ⟨hl, bss, G, GU, GD⟩ := ih vs (fun j => xs (j + 1)) u1 vs1 (fun j u hu => hv (j + 1) u (by simpa using hu)) e2
      refine ⟨by simp [hl], fun j => match j with | 0 => bs | j + 1 => bss j, ?_, ?_, ?_⟩
      · intro j u hu
        cases j with
        | zero => simp at hu; subst hu; exact g
        | succ j => simp at hu; exact G j u hu
      · intro j b hb
        cases j with
        | zero => obtain ⟨id, h1, _, h2⟩ := gu b hb; exact ⟨id, h1, h2⟩
        | succ j => obtain ⟨id, h1, h2⟩ := GU j b hb; exact ⟨id, fun h => h1 (gs id h), h2⟩
      · intro j k hjk b hb hb'
        cases j with
        | zero =>
          cases k with
          | zero => exact hjk rfl
          | succ k =>
            obtain ⟨id, _, hin, r, hl1⟩ := gu b hb
            obtain ⟨id', hn', r', hl2⟩ := GU k b hb'
            have := H.inj id id' b r r' hl1 hl2
            subst this
            exact hn' hin
        | succ j =>
          cases k with
          | zero =>
            obtain ⟨id, _, hin, r, hl1⟩ := gu b hb'
            obtain ⟨id', hn', r', hl2⟩ := GU j b hb
            have := H.inj id id' b r r' hl1 hl2
            subst this
            exact hn' hin
          | succ k => exact GD j k (fun h => hjk (by rw [h])) b hb hb'

theorem exportV_seal (H : HR w c h) {kn : Bool} {t : TypeId} {used used' : List Nat} {v v' : AV} {h' : Hp} {x : Value} (hv : VR w c v x) (he : exportV P false kn t h used v = some (v', h', used')) :
    ∃ c', Ext w c w c' ∧ HR w c' h' ∧ v'.isPure = true ∧ VR w c' v' x := by
  unfold exportV at he
  simp only [Bool.false_eq_true, if_false] at he
  split at he
  · cases he; exact ⟨c, Ext.refl _ _, H, rfl, hv⟩
  · obtain ⟨⟨v1, h1⟩, e1, he⟩ := Option.map_eq_some_iff.1 he
    cases he
    obtain ⟨c1, S⟩ := sealA_ok H hv e1
    exact ⟨c1, S.ext, S.hr, S.pure, S.vr⟩

theorem exportL_seal {kn : Bool} : ∀ (ts : List TypeId) (vs : List AV) {c : Ctx} {h : Hp} (H : HR w c h) (xs : Nat → Value) (used : List Nat) (vs' : List AV), (∀ j v, vs[j]? = some v → VR w c v (xs j)) → exportL P false kn h used ts vs = some vs' →
    vs'.length = vs.length ∧ ∃ c' h', Ext w c w c' ∧ HR w c' h' ∧ (∀ j v, vs'[j]? = some v → v.isPure = true ∧ VR w c' v (xs j)) := by
  intro ts
  induction ts with
  | nil =>
    intro vs c h H xs used vs' hv he
    cases vs with
    | nil => simp only [exportL, Option.some.injEq] at he; subst he; exact ⟨rfl, c, h, Ext.refl _ _, H, by simp⟩
    | cons v vs => simp [exportL] at he
  | cons t ts ih =>
    intro vs c h H xs used vs' hv he
    cases vs with
    | nil => simp [exportL] at he
    | cons v vs =>
      simp only [exportL] at he
      obtain ⟨⟨v1, h1, u1⟩, e1, he⟩ := Option.bind_eq_some_iff.1 he
      obtain ⟨vs1, e2, he⟩ := Option.map_eq_some_iff.1 he
      cases he
      obtain ⟨c1, E1, H1, p1, r1⟩ := exportV_seal H (hv 0 v rfl) e1
      obtain ⟨hl, c2, h2, E2, H2, G⟩ := ih vs H1 (fun j => xs (j + 1)) u1 vs1 (fun j u hu => (hv (j + 1) u (by simpa using hu)).mono E1) e2
      refine ⟨by simp [hl], c2, h2, E1.trans E2, H2, ?_⟩
      intro j u hu
      cases j with
      | zero => simp at hu; subst hu; exact ⟨p1, r1.mono E2⟩
      | succ j => simp at hu; exact G j u hu

theorem exportR_ok (H : HR w c h) {ow kn : Bool} {ts : List TypeId} {v r : AV} {x : Value} (hv : VR w c v x) (he : exportR P ow kn ts h v = some r) :
    ∃ c' h', Ext w c w c' ∧ HR w c' h' ∧ ResOk w c.base c'.fz r x := by
  unfold exportR at he
  split at he
  · rename_i vs
    obtain ⟨vs', e1, rfl⟩ := Option.map_eq_some_iff.1 he
    cases hv with
    | tup _ xs hl hv =>
      cases ow with
      | true =>
        obtain ⟨hl', bss, G, GU, GD⟩ := exportL_own H ts vs (fun j => xs.getD j Go.undef) [] vs' hv e1
        exact ⟨c, h, Ext.refl _ _, H, .inl ⟨vs', xs, bss, rfl, rfl, by rw [hl', hl], G, GD⟩⟩
      | false =>
        obtain ⟨hl', c1, h1, E, H1, G⟩ := exportL_seal ts vs H (fun j => xs.getD j Go.undef) [] vs' hv e1
        refine ⟨c1, h1, E, H1, .inl ⟨vs', xs, fun _ => [], rfl, rfl, by rw [hl', hl], ?_, by simp⟩⟩
        intro j u hu
        obtain ⟨p, q⟩ := G j u hu
        exact .inr (.inl ⟨p, q.toP p, rfl⟩)
  · rename_i hnt
    split at he
    · rename_i t
      obtain ⟨⟨v1, h1, u1⟩, e1, he⟩ := Option.bind_eq_some_iff.1 he
      dsimp only at he
      split at he
      · cases he
      rename_i hnt1
      simp only [Option.some.injEq] at he
      subst he
      have hnt2 : ∀ vs, v1 ≠ .tup vs := fun vs e => hnt1 (by rw [e]; rfl)
      cases ow with
      | true =>
        obtain ⟨rfl, bs, g, _⟩ := exportV_own H hv e1
        exact ⟨c, h1, Ext.refl _ _, H, .inr ⟨hnt2, bs, g⟩⟩
      | false =>
        obtain ⟨c1, E1, H1, p1, r1⟩ := exportV_seal H hv e1
        exact ⟨c1, h1, E1, H1, .inr ⟨hnt2, [], .inr (.inl ⟨p1, r1.toP p1, rfl⟩)⟩⟩
    · cases he

/-! ### The caller takes it -/
/-- A block that lay elsewhere. -/
theorem HR.pushAt (H : HR w c h) (l : Loc) (blk : Blk) (hB : Ext w c w (c.push l) → BR w (c.push l) l blk) (hl : ∀ b r, l = .at_ b r → ∀ id s, c.loc id ≠ .at_ b s) (hP : ∀ b r, l = .at_ b r → ¬ c.pv b) : Ext w c w (c.push l) ∧ HR w (c.push l) (h.alloc blk) := by
  have E := H.pushExt (Below.refl _ w) l
  have hnx := H.nx
  refine ⟨E, by simp [Ctx.push, Hp.alloc, hnx], ?_, ?_, ?_, ?_, H.fzlt, H.base, fun b hp => ⟨(H.priv b hp).1, (H.priv b hp).2.1, fun id r he => by
    simp only [Ctx.push] at he
    split at he
    · exact hP b r he hp
    · exact (H.priv b hp).2.2 id r he⟩⟩
  · intro id hid
    rw [alloc_bl] at hid
    split at hid
    · cases hid
    · simp only [Ctx.push]
      rw [if_neg (by omega)]
      exact H.dead id hid
  · intro id hid
    rw [alloc_nx] at hid
    rw [alloc_bl, if_neg (by omega)]
    exact H.hi id (by omega)
  · intro id b hbl
    rw [alloc_bl] at hbl
    split at hbl
    · rename_i he
      cases hbl
      have : (c.push l).loc id = l := by simp only [Ctx.push]; rw [if_pos (by omega)]
      rw [this]
      exact hB E
    · have : (c.push l).loc id = c.loc id := by simp only [Ctx.push]; rw [if_neg (by omega)]
      rw [this]
      exact (H.blk id b hbl).mono E (fun _ _ _ => rfl) (fun _ _ _ => Iff.rfl)
  · intro i j b r s hi hj
    simp only [Ctx.push] at hi hj
    split at hi
    · split at hj
      · omega
      · exact absurd hj (hl b r hi j s)
    · split at hj
      · exact absurd hi (hl b s hj i r)
      · exact H.inj i j b r s hi hj

theorem mapH_ok {f : Hp → AV → AV × Hp} {G : AV → Value → List Nat → Prop} {B : Nat} {fz : Nat → Prop}
    (hI : ∀ {c : Ctx} {h : Hp} (H : HR w c h) (hf : ∀ b, fz b ↔ c.fz b) (hB : c.base ≤ B) (hP : ∀ b, c.pv b → b < B) {v : AV} {x : Value} {bs : List Nat}, G v x bs → (∀ b ∈ bs, ∀ id s, c.loc id ≠ .at_ b s) →
      ∃ c', Ext w c w c' ∧ HR w c' (f h v).2 ∧ (f h v).1.isCell = true ∧ VR w c' (f h v).1 x ∧ (∀ b, c'.fz b ↔ c.fz b) ∧ ∀ id b s, c'.loc id = .at_ b s → c.loc id = .at_ b s ∨ b ∈ bs) :
    ∀ (vs : List AV) {c : Ctx} {h : Hp} (H : HR w c h) (hf : ∀ b, fz b ↔ c.fz b) (hB : c.base ≤ B) (hP : ∀ b, c.pv b → b < B) (xs : Nat → Value) (bss : Nat → List Nat), (∀ j v, vs[j]? = some v → G v (xs j) (bss j)) → (∀ j k, j ≠ k → ∀ b ∈ bss j, b ∉ bss k) →
    (∀ j, j < vs.length → ∀ b ∈ bss j, ∀ id s, c.loc id ≠ .at_ b s) → ∃ c', Ext w c w c' ∧ HR w c' (mapH f h vs).2 ∧ (mapH f h vs).1.length = vs.length ∧ (∀ j v, (mapH f h vs).1[j]? = some v → v.isCell = true ∧ VR w c' v (xs j)) ∧
      (∀ b, c'.fz b ↔ c.fz b) ∧ ∀ id b s, c'.loc id = .at_ b s → c.loc id = .at_ b s ∨ ∃ j, j < vs.length ∧ b ∈ bss j := by
  intro vs
  induction vs with
  | nil => intro c h H hf hB hP xs bss _ _ _; exact ⟨c, Ext.refl _ _, H, rfl, by simp [mapH], fun _ => Iff.rfl, fun _ _ _ h => .inl h⟩
  | cons v vs ih =>
    intro c h H hf hB hP xs bss hg hd hl
    obtain ⟨c1, E1, H1, i1, r1, f1, l1⟩ := hI H hf hB hP (hg 0 v rfl) (hl 0 (by simp))
    obtain ⟨c2, E2, H2, n2, r2, f2, l2⟩ := ih H1 (fun b => (hf b).trans (f1 b).symm) (by rw [E1.base]; exact hB) (by rw [E1.pv]; exact hP) (fun j => xs (j + 1)) (fun j => bss (j + 1)) (fun j u hu => hg (j + 1) u (by simpa using hu)) (fun j k hjk => hd (j + 1) (k + 1) (by omega)) (by
      intro j hj b hb id s he
      rcases l1 id b s he with h | h
      · exact hl (j + 1) (by simp; omega) b hb id s h
      · exact hd (j + 1) 0 (by omega) b hb h)
    refine ⟨c2, E1.trans E2, H2, by simp [mapH, n2], ?_, fun b => (f2 b).trans (f1 b), fun id b s he => ?_⟩
    · intro j u hu
      simp only [mapH] at hu
      cases j with
      | zero => simp at hu; subst hu; exact ⟨i1, r1.mono E2⟩
      | succ j => simp at hu; exact r2 j u hu
    · rcases l2 id b s he with h | ⟨j, hj, h⟩
      · rcases l1 id b s h with h | h
        · exact .inl h
        · exact .inr ⟨0, by simp, h⟩
      · exact .inr ⟨j + 1, by simp; omega, h⟩
theorem importN_ok {B : Nat} {fz : Nat → Prop} : ∀ (k : Nat) {c : Ctx} {h : Hp} (H : HR w c h) (hf : ∀ b, fz b ↔ c.fz b) (hB : c.base ≤ B) (hP : ∀ b, c.pv b → b < B) {v : AV} {x : Value} {bs : List Nat}, GotF w B fz k v x bs → (∀ b ∈ bs, ∀ id s, c.loc id ≠ .at_ b s) →
      ∃ c', Ext w c w c' ∧ HR w c' (importN k h v).2 ∧ (importN k h v).1.isCell = true ∧ VR w c' (importN k h v).1 x ∧ (∀ b, c'.fz b ↔ c.fz b) ∧ ∀ id b s, c'.loc id = .at_ b s → c.loc id = .at_ b s ∨ b ∈ bs := by
  intro k
  induction k with
  | zero =>
    intro c h H hf hB hP v x bs hg hl
    cases hg with
    | pure hp hc hv =>
      exact ⟨c, Ext.refl _ _, H, hc, hv.ofP hp (fun b hb => (hf b).1 hb), fun _ => Iff.rfl, fun _ _ _ h => .inl h⟩
  | succ k ih =>
    intro c h H hf hB hP v x bs hg hl
    cases hg with
    | pure hp hc hv =>
      have : importN (k + 1) h v = (v, h) := by
        cases v <;> first | rfl | simp [AV.isPure] at hp
      rw [this]
      exact ⟨c, Ext.refl _ _, H, hc, hv.ofP hp (fun b hb => (hf b).1 hb), fun _ => Iff.rfl, fun _ _ _ h => .inl h⟩
    | @nil _ sz hpos =>
      obtain ⟨E, H'⟩ := H.pushAt .nilv (.cells false true []) (fun _ => ⟨rfl, rfl⟩) (fun b r hb => by cases hb) (fun b r hb => by cases hb)
      refine ⟨_, E, H', rfl, ?_, fun _ => Iff.rfl, ?_⟩
      · refine .sl _ _ _ _ _ (by simp [Ctx.push, H.nx, mapH]) ⟨none, 0, by simp, by simp, by simp [maxLen], fun _ => rfl, fun _ => ⟨rfl, rfl⟩, ?_⟩
        intro b row hb
        simp only [Ctx.push] at hb
        rw [if_pos (by exact H.nx.symm)] at hb
        cases hb
      · intro id b s hb
        simp only [Ctx.push] at hb
        split at hb
        · cases hb
        · exact .inl hb
    | @slice _ sz n cap b flat cs e bss hpos g1 g2 g3 g4 g5 g6 g7 g8 g9 G GD hnb =>
      have hn : flat.length / sz = n := by rw [g3]; exact Nat.mul_div_cancel _ hpos
      obtain ⟨c1, E1, H1, n1, r1, f1, l1⟩ := mapH_ok (f := importN k) ih flat H hf hB hP (fun j => cs.getD j Go.undef) bss G GD (fun j hj a ha id s => hl a (List.mem_cons_of_mem _ (List.mem_flatMap.2 ⟨j, List.mem_range.2 hj, ha⟩)) id s)
      have hb1 : ∀ id s, c1.loc id ≠ .at_ b s := by
        intro id s he
        rcases l1 id b s he with h | ⟨j, _, h⟩
        · exact hl b List.mem_cons_self id s h
        · exact hnb j h
      generalize hm : mapH (importN k) h flat = m at n1 r1 H1
      obtain ⟨flat', h1⟩ := m
      obtain ⟨E, H'⟩ := H1.pushAt (.at_ b true) (.cells false true flat') (fun E => by
        refine ⟨rfl, by rw [E.base, E1.base]; exact Nat.le_trans hB g4, ⟨(fun h => by cases h), fun hfz => absurd ((hf b).2 ((f1 b).1 hfz)) g6⟩, cs, e, g7, by simp only at n1; rw [n1]; exact g9, fun j y hj => ⟨(r1 j y hj).1, (r1 j y hj).2.mono E⟩⟩) (fun b' r' hb' => by cases hb'; exact hb1) (fun b' r' hb' hp => by cases hb'; have := hP b (by rw [← E1.pv]; exact hp); omega)
      have hi : importN (k + 1) h (.fresh sz flat) = (.sl h1.nx 0 n sz, h1.alloc (.cells false true flat')) := by
        show (AV.sl (mapH (importN k) h flat).2.nx 0 (flat.length / sz) sz, (mapH (importN k) h flat).2.alloc (.cells false true (mapH (importN k) h flat).1)) = _
        rw [hm, hn]
      rw [hi]
      refine ⟨_, E1.trans E, H', rfl, ?_, f1, ?_⟩
      · refine .sl _ _ _ _ _ (by simp [Ctx.push, H1.nx]) ⟨_, cap, rfl, g1, g2, (fun hh => by cases hh), ?_, ?_⟩
        · intro hh
          simp only [Ctx.push] at hh
          rw [if_pos H1.nx.symm] at hh
          cases hh
        · intro b' row hb _
          simp only [Ctx.push] at hb
          rw [if_pos H1.nx.symm] at hb
          cases hb
          have : csize w b = cs.size := by simp [csize, g7]
          rw [this]
          exact ⟨rfl, by omega, fun _ => by omega⟩
      · intro id b' s hb
        simp only [Ctx.push] at hb
        split at hb
        · cases hb; exact .inr (by simp)
        · rcases l1 id b' s hb with h | ⟨j, hj, h⟩
          · exact .inl h
          · exact .inr (List.mem_cons_of_mem _ (List.mem_flatMap.2 ⟨j, List.mem_range.2 hj, h⟩))

theorem importV_ok (H : HR w c h) {B : Nat} {fz : Nat → Prop} (hf : ∀ b, fz b ↔ c.fz b) (hB : c.base ≤ B) (hP : ∀ b, c.pv b → b < B) {v : AV} {x : Value} {bs : List Nat} (hg : Got w B fz v x bs) (hl : ∀ b ∈ bs, ∀ id s, c.loc id ≠ .at_ b s) :
    ∃ c', Ext w c w c' ∧ HR w c' (importV h v).2 ∧ VR w c' (importV h v).1 x ∧ (∀ b, c'.fz b ↔ c.fz b) ∧ ∀ id b s, c'.loc id = .at_ b s → c.loc id = .at_ b s ∨ b ∈ bs := by
  rcases hg with ⟨sz, flat, rfl, hpos, hp, hg⟩ | ⟨hp, hv, rfl⟩ | ⟨u, rfl, hw⟩
  · rcases hg with ⟨rfl, rfl, rfl⟩ | ⟨b, n, cap, cs, e, rfl, g1, g2, g3, g4, g5, g6, g7, g8, g9, rfl⟩
    · obtain ⟨E, H'⟩ := H.pushAt .nilv (.cells false true []) (fun _ => ⟨rfl, rfl⟩) (fun b r hb => by cases hb) (fun b r hb => by cases hb)
      refine ⟨_, E, H', ?_, fun _ => Iff.rfl, ?_⟩
      · refine .sl _ _ _ _ _ (by simp [Ctx.push, H.nx]) ⟨none, 0, by simp, by simp, by simp [maxLen], fun _ => rfl, fun _ => ⟨rfl, rfl⟩, ?_⟩
        intro b row hb
        simp only [Ctx.push] at hb
        rw [if_pos H.nx.symm] at hb
        cases hb
      · intro id b s hb
        simp only [Ctx.push] at hb
        split at hb
        · cases hb
        · exact .inl hb
    · have hn : flat.length / sz = n := by rw [g3]; exact Nat.mul_div_cancel _ hpos
      obtain ⟨E, H'⟩ := H.pushAt (.at_ b true) (.cells false true flat) (fun E => by
        refine ⟨rfl, Nat.le_trans hB g4, ⟨(fun h => by cases h), fun hfz => absurd ((hf b).2 hfz) g6⟩, cs, e, g7, g9.1, fun j y hj => ⟨(g9.2 j y hj).1, ?_⟩⟩
        exact ((g9.2 j y hj).2.ofP (c := c) (pureL_get hp hj) (fun b hb => (hf b).1 hb)).mono E) (fun b' r' hb' => by cases hb'; exact hl b List.mem_cons_self) (fun b' r' hb' hp => by cases hb'; have := hP b hp; omega)
      refine ⟨_, E, H', ?_, fun _ => Iff.rfl, ?_⟩
      · simp only [importV, hn]
        refine .sl _ _ _ _ _ (by simp [Ctx.push, H.nx]) ⟨_, cap, rfl, g1, g2, (fun hh => by cases hh), ?_, ?_⟩
        · intro hh
          simp only [Ctx.push] at hh
          rw [if_pos H.nx.symm] at hh
          cases hh
        · intro b' row hb _
          simp only [Ctx.push] at hb
          rw [if_pos H.nx.symm] at hb
          cases hb
          have : csize w b = cs.size := by simp [csize, g7]
          rw [this]
          exact ⟨rfl, by omega, fun _ => by omega⟩
      · intro id b' s hb
        simp only [Ctx.push] at hb
        split at hb
        · cases hb; exact .inr (by simp)
        · exact .inl hb
  · have : importV h v = (v, h) := by
      cases v <;> first | rfl | simp [AV.isPure] at hp
    rw [this]
    exact ⟨c, Ext.refl _ _, H, hv.ofP hp (fun b hb => (hf b).1 hb), fun _ => Iff.rfl, fun _ _ _ h => .inl h⟩
  · rcases hw with ⟨cs, vs, bss, rfl, rfl, hlen, G, GD, rfl⟩ | ⟨hna, G⟩
    · obtain ⟨c1, E1, H1, n1, r1, f1, l1⟩ := mapH_ok (f := importN 3) (importN_ok 3) cs H hf hB hP (fun j => vs.getD j Go.undef) bss G GD (fun j hj a ha id s => hl a (List.mem_flatMap.2 ⟨j, List.mem_range.2 hj, ha⟩) id s)
      refine ⟨c1, E1, H1, CRel.agg ⟨by rw [n1, hlen], fun y hy => ?_, fun j y hj => (r1 j y hj).2⟩, f1, fun id b s he => ?_⟩
      · obtain ⟨j, hj, rfl⟩ := List.getElem_of_mem hy
        exact (r1 j _ (List.getElem?_eq_getElem hj)).1
      · rcases l1 id b s he with h | ⟨j, hj, h⟩
        · exact .inl h
        · exact .inr (List.mem_flatMap.2 ⟨j, List.mem_range.2 hj, h⟩)
    · have : importV h (.own u) = importN 4 h u := by
        cases u <;> first | rfl | exact absurd rfl (hna _)
      rw [this]
      obtain ⟨c1, E1, H1, _, r1, f1, l1⟩ := importN_ok 4 H hf hB hP G hl
      exact ⟨c1, E1, H1, r1, f1, l1⟩

theorem importL_ok {B : Nat} {fz : Nat → Prop} : ∀ (vs : List AV) {c : Ctx} {h : Hp} (H : HR w c h) (hf : ∀ b, fz b ↔ c.fz b) (hB : c.base ≤ B) (hP : ∀ b, c.pv b → b < B) (xs : Nat → Value) (bss : Nat → List Nat), (∀ j v, vs[j]? = some v → Got w B fz v (xs j) (bss j)) → (∀ j k, j ≠ k → ∀ b ∈ bss j, b ∉ bss k) →
    (∀ j, j < vs.length → ∀ b ∈ bss j, ∀ id s, c.loc id ≠ .at_ b s) → ∃ c', Ext w c w c' ∧ HR w c' (importL h vs).2 ∧ (importL h vs).1.length = vs.length ∧ ∀ j v, (importL h vs).1[j]? = some v → VR w c' v (xs j) := by
  intro vs
  induction vs with
  | nil => intro c h H hf hB hP xs bss _ _ _; exact ⟨c, Ext.refl _ _, H, rfl, by simp [importL]⟩
  | cons v vs ih =>
    intro c h H hf hB hP xs bss hg hd hl
    obtain ⟨c1, E1, H1, r1, f1, l1⟩ := importV_ok H hf hB hP (hg 0 v rfl) (hl 0 (by simp))
    obtain ⟨c2, E2, H2, n2, r2⟩ := ih H1 (fun b => (hf b).trans (f1 b).symm) (by rw [E1.base]; exact hB) (by rw [E1.pv]; exact hP) (fun j => xs (j + 1)) (fun j => bss (j + 1)) (fun j u hu => hg (j + 1) u (by simpa using hu)) (fun j k hjk => hd (j + 1) (k + 1) (by omega)) (by
      intro j hj b hb id s he
      rcases l1 id b s he with h | h
      · exact hl (j + 1) (by simp; omega) b hb id s h
      · exact hd (j + 1) 0 (by omega) b hb h)
    refine ⟨c2, E1.trans E2, H2, by simp [importL, n2], ?_⟩
    intro j u hu
    simp only [importL] at hu
    cases j with
    | zero => simp at hu; subst hu; exact r1.mono E2
    | succ j => simp at hu; exact r2 j u hu

theorem GotF.ge {B : Nat} {fz : Nat → Prop} {k : Nat} {v : AV} {x : Value} {bs : List Nat} (g : GotF w B fz k v x bs) : ∀ b ∈ bs, B ≤ b := by
  induction g with
  | pure => intro b hb; cases hb
  | nil => intro b hb; cases hb
  | slice _ _ _ _ g4 _ _ _ _ _ _ _ _ ih =>
    intro b hb
    rcases List.mem_cons.1 hb with rfl | hb
    · exact g4
    · obtain ⟨j, hj, hb⟩ := List.mem_flatMap.1 hb
      exact ih j _ (List.getElem?_eq_getElem (List.mem_range.1 hj)) b hb
theorem GotW.ge {B : Nat} {fz : Nat → Prop} {v : AV} {x : Value} {bs : List Nat} (g : GotW w B fz v x bs) : ∀ b ∈ bs, B ≤ b := by
  rcases g with ⟨cs, vs, bss, rfl, rfl, hlen, G, GD, rfl⟩ | ⟨_, G⟩
  · intro b hb
    obtain ⟨j, hj, hb⟩ := List.mem_flatMap.1 hb
    exact (G j _ (List.getElem?_eq_getElem (List.mem_range.1 hj))).ge b hb
  · exact G.ge

theorem importR_ok (H : HR w c h) {B : Nat} (hB : c.base ≤ B) (hP : ∀ b, c.pv b → b < B) {r : AV} {x : Value} (hr : ResOk w B c.fz r x) (hl : ∀ id b s, c.loc id = .at_ b s → b < B) :
    ∃ c', Ext w c w c' ∧ HR w c' (importR h r).2 ∧ VR w c' (importR h r).1 x := by
  have hge : ∀ {v : AV} {x : Value} {bs : List Nat}, Got w B c.fz v x bs → ∀ b ∈ bs, ∀ id s, c.loc id ≠ .at_ b s := by
    intro v x bs hg b hb id s he
    have := hl id b s he
    rcases hg with ⟨_, _, _, _, _, hg⟩ | ⟨_, _, rfl⟩ | ⟨u, _, hw⟩
    · rcases hg with ⟨_, _, rfl⟩ | ⟨b', _, _, _, _, _, _, _, _, hBb, _, _, _, _, _, rfl⟩
      · cases hb
      · simp only [List.mem_singleton] at hb; omega
    · cases hb
    · have := hw.ge b hb
      omega
  rcases hr with ⟨vs, xs, bss, rfl, rfl, hlen, hg, hd⟩ | ⟨hnt, bs, hg⟩
  · obtain ⟨c1, E1, H1, n1, r1⟩ := importL_ok vs H (fun _ => Iff.rfl) hB hP (fun j => xs.getD j Go.undef) bss hg hd (fun j hj b hb => by
      obtain ⟨v, hv⟩ : ∃ v, vs[j]? = some v := ⟨_, List.getElem?_eq_getElem hj⟩
      exact hge (hg j v hv) b hb)
    exact ⟨c1, E1, H1, .tup _ _ (by rw [n1, hlen]) r1⟩
  · obtain ⟨c1, E1, H1, r1, _⟩ := importV_ok H (fun _ => Iff.rfl) hB hP hg (hge hg)
    have : importR h r = importV h r := by
      cases r <;> first | rfl | exact absurd rfl (hnt _)
    rw [this]
    exact ⟨c1, E1, H1, r1⟩

theorem num_ok {v : AV} {x : Value} {c c' : Ctx} {w w' : World} (hv : VR w c v x) (hs : v.isNum = true) : VR w' c' v x := by
  cases v <;> simp [AV.isNum] at hs
  · rw [hv.bool_inv]; exact .bool _
  · rw [hv.int_inv]; exact .int _ _
theorem flat_ok {v : AV} {x : Value} {c c' : Ctx} {w w' : World} (hv : VR w c v x) (hs : v.isFlat = true) : VR w' c' v x := by
  by_cases ha : ∃ cs, v = .agg cs
  · obtain ⟨cs, rfl⟩ := ha
    obtain ⟨vs, rfl, hr⟩ := hv.agg_inv
    simp only [AV.isFlat] at hs
    exact CRel.agg ⟨hr.1, hr.2.1, fun j y hj => num_ok (hr.2.2 j y hj) (List.all_eq_true.1 hs y (List.mem_of_getElem? hj))⟩
  · refine num_ok hv ?_
    cases v <;> first | exact hs | exact absurd ⟨_, rfl⟩ ha
theorem scalar_ok {v : AV} {x : Value} {c c' : Ctx} {w w' : World} (hv : VR w c v x) (hs : v.isScalar = true) : VR w' c' v x := by
  by_cases ha : ∃ cs, v = .tup cs
  · obtain ⟨cs, rfl⟩ := ha
    simp only [AV.isScalar] at hs
    cases hv with
    | tup _ xs hl hv => exact .tup _ _ hl fun j y hj => flat_ok (hv j y hj) (List.all_eq_true.1 hs y (List.mem_of_getElem? hj))
  · refine flat_ok hv ?_
    cases v <;> first | exact hs | exact absurd ⟨_, rfl⟩ ha

theorem num0_ok {v : AV} {x : Value} {c c' : Ctx} {w w' : World} (hv : VR w c v x) (hs : v.isNum0 = true) : VR w' c' v x := by
  cases v <;> simp [AV.isNum0, AV.isNum] at hs
  · rw [hv.bool_inv]; exact .bool _
  · rw [hv.int_inv]; exact .int _ _
  · rw [hv.nil_inv]; exact .nil
theorem GotF.loose {B : Nat} {fz fz' : Nat → Prop} (hf : ∀ b, fz b → fz' b) {k : Nat} {v : AV} {x : Value} {bs : List Nat} (g : GotF w B fz' k v x bs) : AV.loosN k v = true → GotF w B fz k v x bs := by
  induction g with
  | @pure k v x hp hc hv =>
    intro hl
    refine .pure hp hc (num0_ok hv ?_)
    cases k with
    | zero => exact hl
    | succ k => cases v <;> first | exact hl | simp [AV.isPure] at hp
  | nil hpos => intro _; exact .nil hpos
  | slice h1 h2 h3 h4 h5 h6 h7 h8 h9 h10 G h12 h13 ih =>
    intro hl
    simp only [AV.loosN] at hl
    exact .slice h1 h2 h3 h4 h5 h6 (fun h => h7 (hf _ h)) h8 h9 h10 (fun j y hj => ih j y hj (List.all_eq_true.1 hl y (List.mem_of_getElem? hj))) h12 h13
theorem Got.loose {B : Nat} {fz fz' : Nat → Prop} (hf : ∀ b, fz b → fz' b) {v : AV} {x : Value} {bs : List Nat} (g : Got w B fz' v x bs) (hl : v.loose = true) : Got w B fz v x bs := by
  rcases g with ⟨sz, flat, rfl, _⟩ | ⟨hp, hv, rfl⟩ | ⟨u, rfl, hw⟩
  · simp [AV.loose, AV.isFlat, AV.isNum] at hl
  · refine .inr (.inl ⟨hp, flat_ok hv ?_, rfl⟩)
    cases v <;> first | exact hl | simp [AV.isPure] at hp
  · refine .inr (.inr ⟨u, rfl, ?_⟩)
    rcases hw with ⟨cs, vs, bss, rfl, rfl, hlen, G, GD, rfl⟩ | ⟨hna, G⟩
    · simp only [AV.loose] at hl
      exact .inl ⟨cs, vs, bss, rfl, rfl, hlen, fun j y hj => (G j y hj).loose hf (List.all_eq_true.1 hl y (List.mem_of_getElem? hj)), GD, rfl⟩
    · refine .inr ⟨hna, G.loose hf ?_⟩
      cases u <;> first | exact hl | exact absurd rfl (hna _)
/-- A result that is loose does not care what is frozen. -/
theorem ResOk.loose {B : Nat} {fz fz' : Nat → Prop} (hf : ∀ b, fz b → fz' b) {r : AV} {x : Value} (g : ResOk w B fz' r x) (hl : r.isFree = true) : ResOk w B fz r x := by
  rcases g with ⟨vs, xs, bss, rfl, rfl, hlen, hg, hd⟩ | ⟨hnt, bs, hg⟩
  · simp only [AV.isFree, Bool.and_eq_true] at hl
    exact .inl ⟨vs, xs, bss, rfl, rfl, hlen, fun j v hj => (hg j v hj).loose hf (List.all_eq_true.1 hl.2 v (List.mem_of_getElem? hj)), hd⟩
  · refine .inr ⟨hnt, bs, hg.loose hf ?_⟩
    cases r <;> first | exact absurd rfl (hnt _) | (simp [AV.isFree] at hl; done) | exact hl

end Go.Am

