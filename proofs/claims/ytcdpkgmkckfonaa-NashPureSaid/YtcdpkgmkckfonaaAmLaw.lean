/-
  From a call that the second machine has worked out to a statement: arguments read as lists and numbers, the answer is true.
-/
import Derived.Test.YtcdpkgmkckfonaaAmMain
import Derived.ProofKit
import Derived.Carry
import Derived.OpenShut
set_option linter.unusedVariables false
set_option linter.unusedSimpArgs false
namespace Go.Am
open Go Go.RowKit Go.ChangeShapes Go.WideShapes

/-! ### Lists and numbers as values of the second machine -/
abbrev I (n : Int) : AV := .int .i64 n
abbrev L {α : Type} (f : α → List AV) (xs : List α) : AV := .lst (xs.map f)
/-- One cell a row. -/
def e1 {α : Type} (f : α → AV) : α → List AV := fun x => [f x]
abbrev LI (xs : List Int) : AV := L (e1 I) xs
abbrev LLI (xss : List (List Int)) : AV := L (e1 LI) xss

/-- In the range of int. -/
def ok64 (n : Int) : Prop := -9223372036854775808 ≤ n ∧ n ≤ 9223372036854775807

def RowR (w : World) (fz : Nat → Prop) (avs : List AV) (cs : List Value) : Prop :=
  avs.length = cs.length ∧ ∀ (j : Nat) (a : AV), avs[j]? = some a → a.isCell = true ∧ ∃ x, cs[j]? = some x ∧ VR w (pctx fz) a x

/-- Whatever reads at a type is a value of this kind. -/
def Rd (P : Program) (t : TypeId) {α : Type} (good : α → Prop) (f : α → List AV) : Prop :=
  ∀ {H : Type} {enc : TypeId × Value → H} {w : World} {held : Bool} {fuel : Nat} {cs : List Value} {x : DataW H × List MemPlace},
    DataW.trod enc P w 0 (fun _ => true) held fuel t cs = some x → ∃ a, good a ∧ RowR w (fun b => b < w.heap.size) (f a) cs

variable {P : Program} {t e : TypeId}

theorem RowR.one {w : World} {fz : Nat → Prop} {a : AV} {x : Value} (hc : a.isCell = true) (h : VR w (pctx fz) a x) : RowR w fz [a] [x] := by
  refine ⟨rfl, fun j b hb => ?_⟩
  cases j with
  | zero => simp at hb; subst hb; exact ⟨hc, x, rfl, h⟩
  | succ j => simp at hb

theorem Rd.int (ht : P.underlying t = some (.int .i64)) : Rd P t ok64 (e1 I) := by
  intro H enc w held fuel cs x h
  obtain ⟨n, rfl, _, hw⟩ := DataW.trod_int ht h
  refine ⟨n, ?_, RowR.one rfl (.int _ _)⟩
  simpa [Lit.wf, IntKind.min, IntKind.max, IntKind.signed, IntKind.bits, ok64] using hw

theorem Rd.bool (ht : P.underlying t = some .bool) : Rd P t (fun _ : Bool => True) (e1 .bool) := by
  intro H enc w held fuel cs x h
  obtain ⟨b, rfl, _⟩ := DataW.trod_bool ht h
  exact ⟨b, trivial, RowR.one rfl (.bool _)⟩

theorem Rd.sl {α : Type} {good : α → Prop} {f : α → List AV} {sz : Nat} (ht : P.underlying t = some (.slice e)) (hsz : P.cellsOf e = sz) (he : Rd P e good f) (hf : ∀ x, (f x).length = sz) (h0 : 0 < sz) :
    Rd P t (fun xs : List α => (∀ x ∈ xs, good x) ∧ xs.length ≤ maxLen) (e1 (L f)) := by
  subst hsz
  intro H enc w held fuel cs x h
  rcases DataW.trod_slice ht h with ⟨rfl, _⟩ | ⟨a, len, cap, elems, rest, n, _, rfl, _, _, hl, hc, hel, hi, _⟩
  · exact ⟨[], ⟨by simp, by simp⟩, RowR.one rfl .lst0⟩
  · have key : ∀ i, i < len → ∃ y : α, good y ∧ ∃ row, w.cells? 0 (a.add (i * P.cellsOf e)) (P.cellsOf e) = some row ∧ RowR w (fun b => b < w.heap.size) (f y) row := by
      intro i hlt
      have h1 := hi i hlt
      have : ∃ z, elems[i]? = some z := by
        rw [← hel] at hlt
        exact ⟨_, List.getElem?_eq_getElem hlt⟩
      obtain ⟨z, hz⟩ := this
      rw [hz] at h1
      obtain ⟨row, h2, h3⟩ := Option.bind_eq_some_iff.1 h1
      obtain ⟨y, hy, hr⟩ := he h3
      exact ⟨y, hy, row, h2, hr⟩
    have : ∃ xs : List α, xs.length = len ∧ ∀ i y, xs[i]? = some y → good y ∧ ∃ row, w.cells? 0 (a.add (i * P.cellsOf e)) (P.cellsOf e) = some row ∧ RowR w (fun b => b < w.heap.size) (f y) row := by
      have : ∀ m, m ≤ len → ∃ xs : List α, xs.length = m ∧ ∀ i y, xs[i]? = some y → good y ∧ ∃ row, w.cells? 0 (a.add (i * P.cellsOf e)) (P.cellsOf e) = some row ∧ RowR w (fun b => b < w.heap.size) (f y) row := by
        intro m
        induction m with
        | zero => intro _; exact ⟨[], rfl, by simp⟩
        | succ m ih =>
          intro hm
          obtain ⟨xs, h1, h2⟩ := ih (by omega)
          obtain ⟨y, hy⟩ := key m (by omega)
          refine ⟨xs ++ [y], by simp [h1], fun i z hz => ?_⟩
          rcases Nat.lt_or_ge i xs.length with hlt | hge
          · rw [List.getElem?_append_left hlt] at hz; exact h2 i z hz
          · rw [List.getElem?_append_right hge] at hz
            have : i - xs.length = 0 := by
              rcases Nat.eq_zero_or_pos (i - xs.length) with h | h
              · exact h
              · rw [List.getElem?_eq_none (by simp; omega)] at hz; cases hz
            rw [this] at hz
            simp at hz
            have hi : i = m := by omega
            subst hz; subst hi
            exact hy
      exact this len (Nat.le_refl _)
    obtain ⟨xs, hxl, hx⟩ := this
    refine ⟨xs, ⟨fun y hy => ?_, by omega⟩, ?_⟩
    · obtain ⟨i, hi⟩ := List.getElem?_of_mem hy
      exact (hx i y hi).1
    · refine RowR.one rfl ?_
      -- the cells, one after the other
      have hflat : ∀ j u, (xs.map f).flatten[j]? = some u → u.isCell = true ∧ ∃ v, w.cell? (a.add j) = some v ∧ VR w (pctx fun b => b < w.heap.size) u v := by
        intro j u hu
        have hlt : j < xs.length * P.cellsOf e := by
          have h1 := (List.getElem?_eq_some_iff.1 hu).1
          have h2 : (xs.map f).flatten.length = xs.length * P.cellsOf e := by
            rw [List.length_flatten, List.map_map]
            have : (List.length ∘ f) = fun _ => P.cellsOf e := funext hf
            rw [this, List.map_const', List.sum_replicate_nat]
          omega
        have hq : j / P.cellsOf e < xs.length := Nat.div_lt_of_lt_mul (by rw [Nat.mul_comm]; exact hlt)
        have hm : j % P.cellsOf e < P.cellsOf e := Nat.mod_lt _ h0
        obtain ⟨y, hy⟩ : ∃ y, xs[j / P.cellsOf e]? = some y := ⟨_, List.getElem?_eq_getElem hq⟩
        obtain ⟨_, row, h1, h2⟩ := hx _ y hy
        have hget : ∀ (ys : List α) (j : Nat), (ys.map f).flatten[j]? = (ys[j / P.cellsOf e]?).bind fun y => (f y)[j % P.cellsOf e]? := by
          intro ys
          induction ys with
          | nil => intro j; simp
          | cons y ys ih =>
            intro j
            simp only [List.map_cons, List.flatten_cons]
            rcases Nat.lt_or_ge j (P.cellsOf e) with hj | hj
            · rw [List.getElem?_append_left (by rw [hf]; exact hj), Nat.div_eq_of_lt hj, Nat.mod_eq_of_lt hj]
              rfl
            · rw [List.getElem?_append_right (by rw [hf]; exact hj), hf, ih]
              obtain ⟨i, rfl⟩ : ∃ i, j = i + P.cellsOf e := ⟨j - P.cellsOf e, by omega⟩
              rw [Nat.add_sub_cancel, Nat.add_div_right _ h0, Nat.add_mod_right]
              rfl
        rw [hget, hy] at hu
        simp only [Option.bind_some] at hu
        obtain ⟨g1, v, g2, g3⟩ := h2.2 _ u hu
        refine ⟨g1, v, ?_, g3⟩
        obtain ⟨_, _, h4⟩ := World.cells?_some h1
        have h5 := h4 _ hm
        rw [add_add, Nat.mul_comm, Nat.div_add_mod] at h5
        rw [h5, g2]
      have hV : ∀ (j : Nat), ∃ v : Value, ∀ u, (xs.map f).flatten[j]? = some u → u.isCell = true ∧ w.cell? (a.add j) = some v ∧ VR w (pctx fun b => b < w.heap.size) u v := by
        intro j
        cases hj : (xs.map f).flatten[j]? with
        | none => exact ⟨Go.undef, fun u hu => by cases hu⟩
        | some u =>
          obtain ⟨g1, v, g2, g3⟩ := hflat j u hj
          exact ⟨v, fun u' hu' => by cases hu'; exact ⟨g1, g2, g3⟩⟩
      have hcv := Classical.axiomOfChoice hV
      obtain ⟨cv, hcv⟩ := hcv
      have hlen : (xs.map f).length = len := by simp [hxl]
      have main : VR w (pctx fun b => b < w.heap.size) (.lst (xs.map f)) (.slice (some a) (xs.map f).length cap) := by
        refine .lst _ a cap (P.cellsOf e) cv ⟨by omega, hc⟩ ?_ ?_ ?_ ?_ ?_
        · intro hn
          have : ∃ y, xs[0]? = some y := by
            cases xs with
            | nil => simp at hn
            | cons y ys => exact ⟨y, rfl⟩
          obtain ⟨y, hy⟩ := this
          obtain ⟨_, row, h1, _⟩ := hx 0 y hy
          have := World.cells?_block h1 h0
          rw [add_block] at this
          exact this
        · intro r hr
          obtain ⟨y, _, rfl⟩ := List.mem_map.1 hr
          exact hf y
        · intro u hu
          obtain ⟨j, hj⟩ := List.getElem?_of_mem hu
          exact (hcv j u hj).1
        · intro j hj
          exact (hcv j _ (List.getElem?_eq_getElem hj)).2.1
        · intro j u hu
          exact (hcv j u hu).2.2
      rw [hlen] at main
      exact main

/-- A struct of two fields of any shape. -/
theorem Rd.two {α β : Type} {ga : α → Prop} {gb : β → Prop} {fa : α → List AV} {fb : β → List AV} {f0 f1 : Field} {sa sb : Nat} (ht : P.underlying t = some (.struct #[f0, f1]))
    (h0 : f0.offset = 0) (h1 : f1.offset = sa) (ca : P.cellsOf f0.type = sa) (cb : P.cellsOf f1.type = sb) (ct : P.cellsOf t = sa + sb)
    (ha : Rd P f0.type ga fa) (hb : Rd P f1.type gb fb) (la : ∀ x, (fa x).length = sa) (lb : ∀ x, (fb x).length = sb) :
    Rd P t (fun x : α × β => ga x.1 ∧ gb x.2) (fun x => fa x.1 ++ fb x.2) := by
  intro H enc w held fuel cs x h
  obtain ⟨ys, m, _, _, hl, hyl, hi⟩ := DataW.trod_struct ht h
  have i0 := hi 0 f0 rfl
  have i1 := hi 1 f1 rfl
  have e0 : (#[f0, f1] : Array Field).size = 2 := rfl
  rw [e0] at hyl
  rw [List.getElem?_eq_getElem (by omega)] at i0 i1
  obtain ⟨a, ga', ra⟩ := ha i0
  obtain ⟨b, gb', rb⟩ := hb i1
  rw [h0, ca] at ra
  rw [h1, cb] at rb
  refine ⟨(a, b), ⟨ga', gb'⟩, ?_, fun j u hu => ?_⟩
  · simp only [List.length_append, la, lb]; omega
  · rcases Nat.lt_or_ge j sa with hj | hj
    · rw [List.getElem?_append_left (by rw [la]; exact hj)] at hu
      obtain ⟨g1, v, g2, g3⟩ := ra.2 j u hu
      refine ⟨g1, v, ?_, g3⟩
      rw [List.drop_zero, List.getElem?_take] at g2
      rw [if_pos hj] at g2
      exact g2
    · rw [List.getElem?_append_right (by rw [la]; exact hj), la] at hu
      obtain ⟨g1, v, g2, g3⟩ := rb.2 _ u hu
      refine ⟨g1, v, ?_, g3⟩
      rw [List.getElem?_take] at g2
      split at g2
      · rw [List.getElem?_drop] at g2
        rwa [Nat.add_sub_cancel' hj] at g2
      · cases g2

/-- One argument: its cells, as one value. -/
def mk (agg : Bool) (cs : List AV) : AV := if agg then .agg cs else cs.headD .undef

def isAggT (P : Program) (t : TypeId) : Bool := match P.underlying t with | some d => aggD d | none => false

theorem Rd.arg {H : Type} {enc : TypeId × Value → H} {w : World} {base : Nat} {α : Type} {good : α → Prop} {f : α → List AV} {v : Value} {d : DataW H} {ps : List MemPlace} (hr : Rd P t good f)
    (hu : (P.underlying t).isSome = true) (hone : isAggT P t = false → ∀ x, (f x).length = 1)
    (hval : Value.okWide P w .any base t v) (h : DataW.Trod enc P w 0 (fun _ => true) true t v d ps) :
    ∃ a, good a ∧ VR w (pctx fun b => b < w.heap.size) (mk (isAggT P t) (f a)) v := by
  obtain ⟨fuel, h⟩ := h
  obtain ⟨a, ha, hl, hc⟩ := hr h
  refine ⟨a, ha, ?_⟩
  cases hu' : P.underlying t with
  | none => rw [hu'] at hu; cases hu
  | some td =>
    simp only [isAggT, hu', mk]
    simp only [Value.okWide, hu'] at hval
    have agg : ∀ cs : Array Value, v = .agg cs → VR w (pctx fun b => b < w.heap.size) (.agg (f a)) v := by
      rintro cs rfl
      refine .agg _ _ ?_ ?_ ?_
      · simpa [Value.cells] using hl
      · intro u hu
        obtain ⟨j, hj⟩ := List.getElem?_of_mem hu
        exact (hc j u hj).1
      · intro j u hu
        obtain ⟨_, x, h2, h3⟩ := hc j u hu
        have : cs[j]? = some x := by simpa [Value.cells] using h2
        rw [Array.getD_eq_getD_getElem?, this]
        exact h3
    have one : aggD td = false → (∀ cs, v ≠ .agg cs) → VR w (pctx fun b => b < w.heap.size) ((f a).headD .undef) v := by
      intro hag hv
      have h1 := hone (by simp [isAggT, hu', hag]) a
      have hcl : v.cells = #[v] := by
        cases v <;> first | rfl | exact absurd rfl (hv _)
      rw [hcl] at hc
      cases hfa : f a with
      | nil => rw [hfa] at h1; cases h1
      | cons u us =>
        obtain ⟨_, x, h2, h3⟩ := hc 0 u (by rw [hfa]; rfl)
        simp at h2
        subst h2
        exact h3
    have nagg : aggD td = false → ∀ cs, v ≠ .agg cs := by
      rintro hag cs rfl
      cases td <;> simp [aggD] at hag <;> simp_all [Cell.okWide, Cell.ok]
    cases td <;> first
      | (obtain ⟨cs, hv, _⟩ := hval; exact agg cs hv)
      | (exact one rfl (nagg rfl))

/-- What a call that answers true leaves: the arguments read as they did. -/
theorem post_true {H : Type} {enc : TypeId × Value → H} {fn : Func} {s : ChangeSpec} {apart fresh handsOn again : Bool} {W W' : World} {args : Array Value} {ds gs : List (DataW H)} {before : List MemPlace} {tb : TypeId}
    (hl : laidOutB P = true) (hpar : (fn.params.toList.all fun t => P.readableRec t && decide (t < P.types.size)) = true)
    (hrt : fn.resultTypes = #[tb]) (htb : P.underlying tb = some .bool) (hvars : s.vars = []) (hs : (s.fn H ds).results = [.lit (.bool true)] ∧ (s.fn H ds).args = ds ∧ (s.fn H ds).vars = [])
    (hW : DataW.Whole enc P fn.params.toList s.vars apart W args.toList ds gs before) (hb : Below W.heap.size W W') :
    s.post enc P fn apart fresh handsOn again W args (.bool true) W' := by
  have hlt : ∀ p ∈ before, p.block < W.heap.size := fun p hp => hW.lt p hp
  have hold : ∀ p ∈ before, (fun b => decide (b < W.heap.size)) p.block = true := fun p hp => by simpa using hlt p hp
  have hW0 := hW
  obtain ⟨p, q, hA, hV, rfl, hz, hn⟩ := hW
  rw [hvars] at hV
  obtain ⟨rfl, rfl⟩ := trodVars_none hV
  rw [List.append_nil] at hW0 hlt hold hz hn
  have hres : ∀ (b : Nat) (sp : Nat → Bool) (hd : Bool), DataW.TrodAll enc P W' b sp hd fn.resultTypes.toList ((Value.bool true).resultList fn.resultTypes.size) (s.fn H ds).results [] := by
    intro b sp hd
    rw [hrt, hs.1]
    exact trodAll_mk1 (shut_bool htb true)
  have hargsK : ∀ (sp : Nat → Bool), (∀ x ∈ p, sp x.block = true) → ∀ (ts : List TypeId) (vs : List Value) (ds : List (DataW H)) (ps : List MemPlace), (ts.all fun t => P.readableRec t && decide (t < P.types.size)) = true → (∀ x ∈ ps, x.block < W.heap.size ∧ sp x.block = true) →
      DataW.TrodAll enc P W 0 (fun _ => true) true ts vs ds ps → DataW.TrodAll enc P W' 0 sp true ts vs ds ps := by
    intro sp hsp ts
    induction ts with
    | nil =>
      intro vs ds ps _ _ h
      obtain ⟨rfl, rfl, rfl⟩ := trodAll_nil h
      exact rfl
    | cons t ts ih =>
      intro vs ds ps hp2 hps h
      obtain ⟨v, vs', d, ds', p1, q1, rfl, rfl, rfl, hd, hr⟩ := trodAll_cons h
      simp only [List.all_cons, Bool.and_eq_true, decide_eq_true_eq] at hp2
      obtain ⟨⟨r1, r2⟩, r3⟩ := hp2
      refine ⟨p1, q1, ?_, ih vs' ds' q1 r3 (fun x hx => hps x (by simp [hx])) hr, rfl⟩
      exact WideElems.Trod_stays hl r1 r2 hd (fun x hx => hb.same (hps x (by simp [hx])).1) (fun x hx => (hps x (by simp [hx])).2)
  have hargs : ∀ sp : Nat → Bool, (∀ x ∈ p, sp x.block = true) → DataW.TrodAll enc P W' 0 sp true fn.params.toList args.toList (s.fn H ds).args p := by
    intro sp hsp
    rw [hs.2.1]
    exact hargsK sp hsp _ _ _ _ hpar (fun x hx => ⟨hlt x hx, hsp x hx⟩) hA
  have hvs : ∀ sp : Nat → Bool, DataW.TrodVars enc P W' sp s.vars (s.fn H ds).vars [] := by
    intro sp
    rw [hvars, hs.2.2]
    exact rfl
  refine ⟨ds, [], p, [], p, [], hW0, ?_, ?_, ?_, World.keptBut_mono (fun x hx => ⟨hx, ?_⟩) (hb.frame (· ∈ p)), fun _ => ?_⟩
  · rw [List.append_nil]; exact hres _ _ _
  · rw [List.append_nil]; exact hargs _ hold
  · rw [List.append_nil]; exact hvs _
  · exact Or.inr (Or.inl hx)
  · refine ⟨?_, _, _, ([] ++ p) ++ [], ⟨[] ++ p, [], trodAll_append (hargs _ (fun _ _ => rfl)) (hres _ _ _), hvs _, rfl, ?_, ?_⟩, ?_⟩
    · exact ok_one hrt rfl (okWide_bool_mk htb true)
    · intro b off hp
      have hin : MemPlace.cell b off ∈ p := by simpa using hp
      rw [hb.frozen (hlt _ hin)]
      exact hz b off hin
    · intro ha
      have := hn ha
      simpa using this
    · intro x hx _
      simpa using hx

end Go.Am

