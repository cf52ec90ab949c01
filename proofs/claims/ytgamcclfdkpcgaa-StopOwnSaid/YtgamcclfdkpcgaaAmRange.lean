/-
  A range over a function whose body leaves what it finds alone, or leaves the loop by a return.
-/
import Derived.Test.YtgamcclfdkpcgaaAmRound
set_option linter.unusedVariables false
set_option linter.unusedSimpArgs false
namespace Go.Am
open Go Go.RowKit
variable {P : Program} {cfg : Cfg}

/-- What the model keeps of a range over a function. -/
def Loopy : Obj → Prop
  | .loop _ => True
  | .deferred _ => True
  | _ => False
theorem cell_turn {W : World} {l : Nat} {o o' : Obj} (hl : W.heap[l]? = some o) (ho : Loopy o) (ho' : Loopy o') (p : Addr) : (W.putObj l o').cell? p = W.cell? p := by
  have hlt := (Array.getElem?_eq_some_iff.1 hl).1
  unfold World.cell?
  by_cases e : p.block = l
  · rw [e, World.putObj_heap_same hlt, hl]
    cases o <;> cases o' <;> simp_all [Loopy]
  · rw [World.putObj_heap_other e]
theorem csize_turn {W : World} {l : Nat} {o o' : Obj} (hl : W.heap[l]? = some o) (ho : Loopy o) (ho' : Loopy o') (b : Nat) : csize (W.putObj l o') b = csize W b := by
  have hlt := (Array.getElem?_eq_some_iff.1 hl).1
  unfold csize
  by_cases e : b = l
  · rw [e, World.putObj_heap_same hlt, hl]
    cases o <;> cases o' <;> simp_all [Loopy]
  · rw [World.putObj_heap_other e]
theorem heap_turn {W : World} {l : Nat} {o o' o2 : Obj} (hl : W.heap[l]? = some o) (ho : Loopy o) {b : Nat} (hb : W.heap[b]? = some o2) (h2 : ¬ Loopy o2) : (W.putObj l o').heap[b]? = some o2 := by
  rw [World.putObj_heap_other]
  · exact hb
  · rintro rfl; rw [hl] at hb; cases hb; exact h2 ho
theorem VR.turn {W : World} {c : Ctx} {l : Nat} {o o' : Obj} (hl : W.heap[l]? = some o) (ho : Loopy o) (ho' : Loopy o') {v : AV} {x : Value} (h : VR W c v x) : VR (W.putObj l o') c v x := by
  induction h with
  | undef v => exact .undef v
  | skp => exact .skp
  | bool b => exact .bool b
  | int k n => exact .int k n
  | nil => exact .nil
  | lst0 => exact .lst0
  | lst xs a cap sz cv hcap hfz hu hcell hc hv ih => exact .lst xs a cap sz cv hcap hfz hu hcell (fun j hj => (cell_turn hl ho ho' _).trans (hc j hj)) ih
  | sl id off n sz v hid h => exact .sl id off n sz v hid (h.mono (.inl rfl) fun b row hb => csize_turn hl ho ho' b)
  | pp cs a cv hfz hcell hc hv ih => exact .pp cs a cv hfz hcell (fun j hj => (cell_turn hl ho ho' _).trans (hc j hj)) ih
  | ptr id off v hid h => exact .ptr id off v hid h
  | agg cs vs hl hcell hv ih => exact .agg cs vs hl hcell ih
  | tup cs vs hl hv ih => exact .tup cs vs hl ih
  | fn f cs vs hl hv ih => exact .fn f cs vs hl ih
  | nilfn => exact .nilfn
  | nilmp => exact .nilmp
  | mp id v hid h => exact .mp id v hid h
  | mv ks vs r ents clk hfz hb hl2 hk hkk hbo hv ih => exact .mv ks vs r ents clk hfz (heap_turn hl ho hb (fun h => h)) hl2 hk hkk hbo ih
theorem HR.turn {W : World} {c : Ctx} {h : Hp} {l : Nat} {o o' : Obj} (hl : W.heap[l]? = some o) (ho : Loopy o) (ho' : Loopy o') (H : HR W c h) : HR (W.putObj l o') c h := by
  have hsz : (W.putObj l o').heap.size = W.heap.size := by simp [World.putObj]
  refine ⟨H.nx, H.dead, H.hi, fun id b hb => ?_, H.inj, fun b hb => by rw [hsz]; exact H.fzlt b hb, by rw [hsz]; exact H.base, fun b hp => ⟨by rw [hsz]; exact (H.priv b hp).1, (H.priv b hp).2⟩⟩
  have hB := H.blk id b hb
  cases b with
  | cells fz row flat =>
    unfold BR at hB ⊢
    cases hloc : c.loc id with
    | dead => rw [hloc] at hB; exact hB
    | nilv => rw [hloc] at hB; exact hB
    | at_ n r =>
      rw [hloc] at hB
      obtain ⟨h1, h2, h3, cs, e, h4, h5⟩ := hB
      exact ⟨h1, h2, h3, cs, e, heap_turn hl ho h4 (fun h => h), h5.1, fun j x hx => ⟨(h5.2 j x hx).1, (h5.2 j x hx).2.turn hl ho ho'⟩⟩
  | mp fz es =>
    obtain ⟨n, h1, h2, h3, ents, clk, h4, h5, h6⟩ := hB
    exact ⟨n, h1, h2, h3, ents, clk, heap_turn hl ho h4 (fun h => h), ⟨h5.1, fun j k v hj => let ⟨x, q1, q2, q3⟩ := h5.2 j k v hj; ⟨x, q1, q2, q3.turn hl ho ho'⟩⟩, h6⟩
  | it =>
    obtain ⟨n, h1, h2, h3, m, s, sn, lt, h4⟩ := hB
    exact ⟨n, h1, h2, h3, m, s, sn, lt, heap_turn hl ho h4 (fun h => h)⟩
theorem Ext.turn {w W : World} {c c' : Ctx} {l : Nat} {o o' : Obj} (hl : W.heap[l]? = some o) (ho : Loopy o) (ho' : Loopy o') (E : Ext w c W c') (hb : c.base ≤ l) (hf : ∀ b, c.fz b → b ≠ l) (hpv : ∀ b, c.pv b → b ≠ l) : Ext w c (W.putObj l o') c' := by
  have hsz : (W.putObj l o').heap.size = W.heap.size := by simp [World.putObj]
  refine ⟨E.base, E.nx, ⟨E.below.os, E.below.tape, E.below.output, by rw [hsz]; exact E.below.size, fun k hk => ?_⟩, E.fz, fun b hfb => ?_, E.loc, fun id b row hid hloc => ?_, E.fzb, E.pv, fun b hp => by rw [World.putObj_heap_other (hpv b hp)]; exact E.pkeep b hp⟩
  · rw [World.putObj_heap_other (by omega)]; exact E.below.block k hk
  · rw [World.putObj_heap_other (hf b hfb)]; exact E.keep b hfb
  · rw [csize_turn hl ho ho']; exact E.size id b row hid hloc
theorem SR.turn {W : World} {c : Ctx} {n : Nat} {st : St} {a : Act} {l : Nat} {o o' : Obj} (hl : W.heap[l]? = some o) (ho : Loopy o) (ho' : Loopy o') (S : SR n W c st a) : SR n (W.putObj l o') c st a :=
  ⟨S.defers, S.size, fun i => (S.val i).turn hl ho ho'⟩

/-! ### The statement -/
/-- What an iterator owes: whatever holds between two rounds, as long as it depends on what lay there before the iterator began. -/
def SeqC {α : Type} (P : Program) (m gf : Nat) (lb : Array Value) (encs : α → Array Value) (S Sp : List α → Prop) (N : Nat) (w : World) : Prop :=
  ∀ (l : Nat) (J Jx : List α → World → Prop) (W : World), Below w.heap.size w W → (∀ s A B, J s A → Below W.heap.size A B → J s B) →
    (∀ pre x W1, J pre W1 → pre.length < N → YieldAt (rF none) m P l (encs x) W1 fun e W' => (e = .returned (.bool true) ∧ J (pre ++ [x]) W' ∧ Below W1.heap.size W1 W') ∨ (e = .returned (.bool false) ∧ Jx (pre ++ [x]) W')) →
    J [] W → CallsIn (rF none) m P gf (#[.func (.yield l) #[] #[]] ++ lb) W fun e W' => (∃ v, e = .returned v) ∧ ((∃ xs, S xs ∧ J xs W') ∨ (∃ pre, Sp pre ∧ Jx pre W'))

theorem Below.mono' {A B : Nat} {w w' : World} (h : Below A w w') (hle : B ≤ A) : Below B w w' := ⟨h.os, h.tape, h.output, h.size, fun k hk => h.block k (by omega)⟩

/-- How a round's body may be left. -/
def postC {α : Type} (W W1 : World) (l D : Nat) (o' : Obj) (Φ : List α → Prop) (Ψ : List α → World → Prop) (xs : List α) : Exit → Act → World → Prop
  | .normal, _, W' => Below W.heap.size W W1 ∧ Below W.heap.size (W1.putObj l o') W' ∧ Φ xs
  | .ret, _, W' => W'.heap[l]? = some o' ∧ W'.heap[D]? = W.heap[D]? ∧ Ψ xs W'
  | _, _, _ => False

theorem range_law {α : Type} {m : Nat} {g : Operand} {ps : Array Tmp} {assign body : Code} {Q : Exit → Act → World → Prop} {a : Act} {w : World}
    {gf : Nat} {lb : Array Value} (hg : a.eval g = .func (.func gf) #[] lb) (eg : ∀ args w, (callFunc gf args).run P w = .ok (.enter gf args) w)
    {encs : α → Array Value} {S Sp : List α → Prop} {N : Nat} (hseq : SeqC P m gf lb encs S Sp N w) (hps : ∀ x, (encs x).size = ps.size)
    (Φ : List α → Prop) (Ψ : List α → World → Prop) (h0 : Φ [])
    (hΨ : ∀ xs W o o' (l : Nat), w.heap.size ≤ l → W.heap[l]? = some o → Loopy o → Loopy o' → Ψ xs W → Ψ xs (W.putObj l o'))
    (hround : ∀ (l D : Nat) (pre : List α) (x : α) (W : World) (o : Obj), Below w.heap.size w W → Φ pre → pre.length < N → W.heap[l]? = some o → Loopy o → (∃ d, W.heap[D]? = some (.deferred d)) → w.heap.size ≤ l → w.heap.size ≤ D → l ≠ D →
      assign.wpIn (rF (some l)) m P (Exit.then (fun a1 W1 => W1.heap[l]? = W.heap[l]? ∧ W1.heap[D]? = W.heap[D]? ∧ ∀ o', Loopy o' → body.wpIn (rF (some l)) m P (postC W W1 l D o' Φ Ψ (pre ++ [x])) a1 (W1.putObj l o')) (fun _ _ _ => False))
        { tmps := (ps.zip (encs x)).foldl (fun t (p, v) => t.setIfInBounds p v) a.tmps, defers := [] } W)
    (hdone : ∀ (D : Nat) (xs : List α) (W : World), S xs → Φ xs → Below w.heap.size w W → w.heap.size ≤ D → W.heap[D]? = some (.deferred (some [])) → Q .normal { a with defers := { target := .collected D, args := #[] } :: a.defers } W)
    (hstop : ∀ (D : Nat) (pre : List α) (W : World), Sp pre → Ψ pre W → w.heap.size ≤ D → W.heap[D]? = some (.deferred (some [])) → Q .ret { a with defers := { target := .collected D, args := #[] } :: a.defers } W) :
    (Code.rangeFunc g ps assign body).wpIn (rF none) (m + 1) P Q a w := by
  refine wpIn_rangeFunc ?_
  intro fn hfn
  obtain ⟨rec, hrec⟩ : ∃ rec : LoopState → Option Code → Loop, rec = fun st pe => { state := st, pending := pe, fn, tmps := a.tmps, params := ps, assign, body, defers := w.heap.size } := ⟨_, rfl⟩
  obtain ⟨W1, hW1⟩ : ∃ W1, (w.alloc (.deferred (some []))).alloc (.loop (rec .ready none)) = W1 := ⟨_, rfl⟩
  have hL1 : W1.heap[w.heap.size + 1]? = some (.loop (rec .ready none)) := by
    rw [← hW1]; have := World.alloc_heap_new (w.alloc (.deferred (some []))) (.loop (rec .ready none)); rwa [World.size_alloc] at this
  have hK1 : W1.heap[w.heap.size]? = some (.deferred (some [])) := by
    rw [← hW1]; exact (Below.heap_alloc _ _ _ (by simp)).trans (World.alloc_heap_new w _)
  have hs1 : W1.heap.size = w.heap.size + 2 := by rw [← hW1]; simp
  have hb1 : Below w.heap.size w W1 := by
    rw [← hW1]; exact ((Below.refl _ w).alloc (Nat.le_refl _) _).alloc (by simp) _
  refine ⟨w.heap.size + 1, [{ target := .collected w.heap.size, args := #[] }], W1, { target := .fn (.func gf) lb, args := #[.func (.yield (w.heap.size + 1)) #[] #[]] }, W1, gf,
    #[.func (.yield (w.heap.size + 1)) #[] #[]] ++ lb, W1, ?_, ?_, ?_, ?_, fun h => (by cases h), ?_⟩
  · rw [← hW1, hrec]; exact run_enterLoop_outer _ _ _ _ _
  · simp only [resolve, hg]
    simp [go_sem]
  · intro f' hf'; trivial
  · simp [invoke, go_sem, eg]
  · refine (hseq (w.heap.size + 1)
      (fun pre W => (Below w.heap.size w W ∧ Φ pre) ∧ W.heap[w.heap.size + 1]? = some (.loop (rec .ready none)) ∧ W.heap[w.heap.size]? = some (.deferred (some [])))
      (fun pre W => Ψ pre W ∧ W.heap[w.heap.size + 1]? = some (.loop (rec .done (some .ret))) ∧ W.heap[w.heap.size]? = some (.deferred (some [])))
      W1 hb1 (fun s A B ⟨⟨h1, h2⟩, h3, h4⟩ hAB => ⟨⟨h1.trans (Below.mono' hAB (by omega)), h2⟩, (hAB.block _ (by omega)).trans h3, (hAB.block _ (by omega)).trans h4⟩) ?_ ⟨⟨hb1, h0⟩, hL1, hK1⟩).mono ?_
    · rintro pre x W ⟨⟨hB, hi⟩, hl, hk⟩ hlen
      have hlt : w.heap.size + 1 < W.heap.size := (Array.getElem?_eq_some_iff.1 hl).1
      have hy := run_yield (P := P) (args := encs x) hl (by rw [hrec]; exact hps x)
      rw [hrec] at hy
      refine ⟨fn, _, assign, body, hy, roundIn_of_wpIn hfn ?_⟩
      refine wpIn_mono (hround (w.heap.size + 1) w.heap.size pre x W _ hB hi hlen hl trivial ⟨_, hk⟩ (by omega) (Nat.le_refl _) (by omega)) ?_
      intro e a1 W2 hp
      cases e with
      | normal =>
        obtain ⟨hl2, hk2, hbody⟩ := hp
        rw [hl] at hl2
        rw [hk] at hk2
        have hlt2 := (Array.getElem?_eq_some_iff.1 hl2).1
        refine ⟨_, run_beginRound hl2 (by rw [hrec]), wpIn_mono (hbody (.loop { rec .ready none with state := .busy }) trivial) ?_⟩
        rintro e a3 W3 hp
        cases e with
        | normal =>
          obtain ⟨hA, hC, hφ⟩ := hp
          have hl3 : W3.heap[w.heap.size + 1]? = some (.loop { rec .ready none with state := .busy }) := (hC.block _ (by omega)).trans (World.putObj_heap_same hlt2)
          have hk3 : W3.heap[w.heap.size]? = some (.deferred (some [])) := (hC.block _ (by omega)).trans ((World.putObj_heap_other (by omega)).trans hk2)
          have hr := run_endRound (P := P) none hl3
          have hlt3 := (Array.getElem?_eq_some_iff.1 hl3).1
          have hrr : (Obj.loop { ({ rec .ready none with state := .busy } : Loop) with state := if (none : Option Code).isNone then .ready else .done, pending := none }) = .loop (rec .ready none) := by rw [hrec]; rfl
          rw [hrr] at hr
          have hfull : Below W.heap.size W (W3.putObj (w.heap.size + 1) (.loop (rec .ready none))) := by
            refine ⟨hC.os.trans hA.os, hC.tape.trans hA.tape, hC.output.trans hA.output, ?_, fun k hk' => ?_⟩
            · have h1 := hA.size; have h2 := hC.size
              simp only [World.putObj, Array.size_setIfInBounds] at h2 ⊢
              omega
            · by_cases e : k = w.heap.size + 1
              · rw [e, World.putObj_heap_same hlt3, hl]
              · rw [World.putObj_heap_other e, hC.block k hk', World.putObj_heap_other e]; exact hA.block k hk'
          exact ⟨_, _, hr, .inl ⟨rfl, ⟨⟨hB.trans (Below.mono' hfull (by omega)), hφ⟩, (hfull.block _ hlt).trans hl, (hfull.block _ (by omega)).trans hk⟩, hfull⟩⟩
        | ret =>
          obtain ⟨hl3, hk3, hψ⟩ := hp
          rw [hk] at hk3
          have hr := run_endRound (P := P) (some .ret) hl3
          have hlt3 := (Array.getElem?_eq_some_iff.1 hl3).1
          refine ⟨_, _, hr, .inr ⟨rfl, hΨ _ _ _ _ _ (by omega) hl3 trivial trivial hψ, ?_, (World.putObj_heap_other (by omega)).trans hk3⟩⟩
          rw [World.putObj_heap_same hlt3, hrec]; rfl
        | exit id => exact hp.elim
        | goto t => exact hp.elim
        | panic ch => exact hp.elim
        | outgrown => exact hp.elim
      | exit id => exact hp.elim
      | goto t => exact hp.elim
      | ret => exact hp.elim
      | panic ch => exact hp.elim
      | outgrown => exact hp.elim
    · rintro e W2 ⟨⟨v, rfl⟩, (⟨xs, hS, ⟨hB, hi⟩, hl, hk⟩ | ⟨pre, hSp, hψ, hl, hk⟩)⟩
      · refine ⟨none, _, by have := run_endLoop (P := P) hl (by rw [hrec]; simp); rw [hrec] at this; exact this, ?_⟩
        refine hdone _ xs _ hS hi ?_ (Nat.le_refl _) ((World.putObj_heap_other (by omega)).trans hk)
        exact ⟨hB.os, hB.tape, hB.output, by simp only [World.putObj, Array.size_setIfInBounds]; exact hB.size, fun k hk' => by rw [World.putObj_heap_other (by omega)]; exact hB.block k hk'⟩
      · refine ⟨some .ret, _, by have := run_endLoop (P := P) hl (by rw [hrec]; simp); rw [hrec] at this; exact this, ?_⟩
        exact wpIn_ret (hstop _ pre _ hSp (hΨ _ _ _ _ _ (by omega) hl trivial trivial hψ) (Nat.le_refl _) ((World.putObj_heap_other (by omega)).trans hk))


/-! ### A round that goes on: the function's own blocks are read alone -/
def viewV (h : Hp) : AV → AV
  | .ptr id off => match h.bl id with | some (.cells _ _ flat) => if AV.pureL flat then .pp (flat.drop off) else .undef | _ => .undef
  | v => if v.isPure then v else .undef
def viewSt (h : Hp) (st : St) : St := fun i => viewV h (st i)
def viewC (c : Ctx) (W : World) : Ctx := { base := W.heap.size, nx := 0, loc := fun _ => .dead, fz := fun b => c.fz b ∨ ∃ id r, c.loc id = .at_ b r }
theorem viewC_lt {w : World} {c : Ctx} {h : Hp} (H : HR w c h) (W : World) : ∀ b, (viewC c W).fz b → b < w.heap.size := by
  rintro b (hb | ⟨id, r, hl⟩)
  · exact H.fzlt b hb
  · obtain ⟨_, _, _, _, h2, _⟩ := H.at hl
    exact h2
theorem viewV_ok {w W : World} {c : Ctx} {h : Hp} (H : HR w c h) (hB : Below w.heap.size w W) {v : AV} {x : Value} (hv : VR w c v x) : VR W (viewC c W) (viewV h v) x := by
  have pure : ∀ {v : AV} {x : Value}, VR w c v x → v.isPure = true → VR W (viewC c W) v x := fun hv hp =>
    hv.pure_mono ⟨fun b hb => .inl hb, fun b hb => hB.block b (H.fzlt b hb)⟩ hp
  cases v
  case ptr id off =>
    show VR W (viewC c W) (match h.bl id with | some (.cells _ _ flat) => if AV.pureL flat then .pp (flat.drop off) else .undef | _ => .undef) x
    cases hb : h.bl id with
    | none => exact .undef _
    | some b =>
      cases b with
      | mp fz es => exact .undef _
      | it => exact .undef _
      | cells fz row flat =>
        show VR W (viewC c W) (if AV.pureL flat then .pp (flat.drop off) else .undef) x
        split
        case isFalse => exact .undef _
        case isTrue hp =>
        have hBR := H.blk id _ hb
        cases hv with
        | ptr _ _ _ hid hpt =>
          obtain ⟨a, rfl, ha⟩ := hpt
          cases hloc : c.loc id with
          | dead => rw [hloc] at hBR; exact hBR.elim
          | nilv =>
            rw [hloc] at hBR
            obtain ⟨rfl, _⟩ := hBR
            exact .pp _ _ (fun _ => Go.undef) (fun hn => by simp at hn) (by simp) (by simp) (by simp)
          | at_ b r =>
            rw [hloc] at hBR
            obtain ⟨h1, h2, h3, cs, e, h4, h5⟩ := hBR
            have ha' := ha b r hloc
            subst ha'
            have hlt := (Array.getElem?_eq_some_iff.1 h4).1
            refine .pp _ _ (fun j => cs.getD (off + j) Go.undef) (fun _ => .inr ⟨id, r, hloc⟩) (fun y hy => ?_) (fun j hj => ?_) (fun j y hy => ?_)
            · obtain ⟨j, hj⟩ := List.getElem?_of_mem (List.mem_of_mem_drop hy)
              exact (h5.2 j y hj).1
            · rw [add_lit, hB.cell (p := ⟨b, off + j, none⟩) hlt]
              have hlen := h5.1
              rw [List.length_drop] at hj
              unfold World.cell?
              have hjc : off + j < cs.size := by omega
              simp [h4, hjc]
            · rw [List.getElem?_drop] at hy
              exact pure (h5.2 (off + j) y hy).2 (pureL_get hp hy)
  all_goals
    simp only [viewV]
    split
    · rename_i hp; exact pure hv hp
    · exact .undef _
theorem viewSt_ok {w W : World} {c : Ctx} {h : Hp} (H : HR w c h) (hB : Below w.heap.size w W) {n : Nat} {st : St} {a : Act} (S : SR n w c st a) : SR n W (viewC c W) (viewSt h st) a :=
  ⟨S.defers, S.size, fun i => viewV_ok H hB (S.val i)⟩
theorem view_start {w W : World} {c : Ctx} {h : Hp} (H : HR w c h) (hB : Below w.heap.size w W) : HR W (viewC c W) Hp.empty :=
  ctx_nil (w := W) (fz := (viewC c W).fz) fun b hb => Nat.lt_of_lt_of_le (viewC_lt H W b hb) hB.size

/-- What a leaving round leaves. -/
def LeftR (w : World) (c : Ctx) (R : Hp → Prop) (W : World) : Prop := ∃ c' h', Ext w c W c' ∧ HR W c' h' ∧ R h'
theorem LeftR.turn {w W : World} {c : Ctx} {h : Hp} (H : HR w c h) {R : Hp → Prop} {l : Nat} {o o' : Obj} (hle : w.heap.size ≤ l) (hl : W.heap[l]? = some o) (ho : Loopy o) (ho' : Loopy o') (q : LeftR w c R W) : LeftR w c R (W.putObj l o') := by
  obtain ⟨c', h', E, H', r⟩ := q
  exact ⟨c', h', E.turn hl ho ho' (Nat.le_trans H.base hle) (fun b hb e => by have := H.fzlt b hb; omega) (fun b hp e => by have := (H.priv b hp).1; omega), H'.turn hl ho ho', r⟩

/-- One round, run by the machine. -/
theorem round_law {α : Type} (hext : ExtOk P cfg) (hlate : ∀ id n, cfg.late id n = []) (t : Nat) {m : Nat} {p : Tmp} {assign body : Code} {a : Act} {w : World} {c : Ctx} {h : Hp} {n : Nat} {st : St} (H : HR w c h) (S : SR n w c st a) (hpn : p < n)
    (sa : calm t assign = true) (sb : calm t body = true) (oa : codeOk cfg n assign = true) (ob : codeOk cfg n body = true)
    {enc : α → Value} {u : α → AV} (hu : ∀ x w c, VR w c (u x) (enc x)) {N : Nat} (Φ : List α → Prop) (R : List α → Hp → Prop)
    (hmach : ∀ (pre : List α) (x : α), Φ pre → pre.length < N →
      (∃ k st1 h1 k2 st2 h2, run P cfg k assign (upd (viewSt h st) p (u x)) Hp.empty = some (.normal, st1, h1) ∧ run P cfg k2 body st1 h1 = some (.normal, st2, h2) ∧ Φ (pre ++ [x])) ∨
      (∃ k st1 h1 k2 st2 h2, run P cfg k assign (upd st p (u x)) h = some (.normal, st1, h1) ∧ run P cfg k2 body st1 h1 = some (.ret, st2, h2) ∧ R (pre ++ [x]) h2)) :
    ∀ (l D : Nat) (pre : List α) (x : α) (W : World) (o : Obj), Below w.heap.size w W → Φ pre → pre.length < N → W.heap[l]? = some o → Loopy o → (∃ d, W.heap[D]? = some (.deferred d)) → w.heap.size ≤ l → w.heap.size ≤ D → l ≠ D →
      assign.wpIn (rF (some l)) m P (Exit.then (fun a1 W1 => W1.heap[l]? = W.heap[l]? ∧ W1.heap[D]? = W.heap[D]? ∧ ∀ o', Loopy o' → body.wpIn (rF (some l)) m P (postC W W1 l D o' Φ (fun xs => LeftR w c (R xs)) (pre ++ [x])) a1 (W1.putObj l o')) (fun _ _ _ => False))
        { tmps := ((#[p] : Array Tmp).zip #[enc x]).foldl (fun t (p, v) => t.setIfInBounds p v) a.tmps, defers := [] } W := by
  intro l D pre x W o hB hφ hlen hl ho hD hle hDe hne
  obtain ⟨d, hD⟩ := hD
  have hact : ({ tmps := ((#[p] : Array Tmp).zip #[enc x]).foldl (fun t (p, v) => t.setIfInBounds p v) a.tmps, defers := [] } : Act) = a.put (some p) (enc x) := by
    have : a.defers = [] := S.defers
    simp [Act.put, this]
  rw [hact]
  have hlt := (Array.getElem?_eq_some_iff.1 hl).1
  have hltD := (Array.getElem?_eq_some_iff.1 hD).1
  rcases hmach pre x hφ hlen with ⟨k, st1, h1, k2, st2, h2, e1, e2, hφ'⟩ | ⟨k, st1, h1, k2, st2, h2, e1, e2, hR⟩
  · have S0 := (viewSt_ok H hB S).put (d := some p) (fun t ht => by cases ht; exact hpn) (hu x W (viewC c W))
    obtain ⟨_, r1⟩ := (sound_in hext hlate t (some l) m k).1 n assign _ _ _ _ _ sa oa e1
    refine r1 (view_start H hB) S0 fun W1 c1 a1 E1 H1 S1 _ => ?_
    have hB1 : Below W.heap.size W W1 := E1.below
    refine ⟨hB1.block l hlt, hB1.block D hltD, fun o' ho' => ?_⟩
    have hl1 : W1.heap[l]? = some o := (hB1.block l hlt).trans hl
    have hlt1 := (Array.getElem?_eq_some_iff.1 hl1).1
    obtain ⟨_, r2⟩ := (sound_in hext hlate t (some l) m k2).1 n body _ _ _ _ _ sb ob e2
    refine r2 (H1.turn hl1 ho ho') (S1.turn hl1 ho ho') fun W2 c2 a2 E2 H2 S2 _ => ?_
    have hbase : c1.base = W.heap.size := E1.base
    have hB2 := E2.below
    rw [hbase] at hB2
    exact ⟨hB1, hB2, hφ'⟩
  · -- it is left
    obtain ⟨f, hf⟩ : ∃ f : Nat → Prop, f = fun b => c.fz b ∨ b = l ∨ b = D := ⟨_, rfl⟩
    have g1 : ∀ b, c.fz b → f b := fun b hb => by rw [hf]; exact .inl hb
    have g2 : ∀ b, f b → c.fz b ∨ (w.heap.size ≤ b ∧ b < W.heap.size) := fun b hb => by
      rw [hf] at hb
      rcases hb with hb | rfl | rfl
      · exact .inl hb
      · exact .inr ⟨hle, hlt⟩
      · exact .inr ⟨hDe, hltD⟩
    have E0 := Ext.grow H hB f g1 g2
    have H0 := H.grow hB f g1 g2
    have S0 := (S.mono E0).put (d := some p) (fun t ht => by cases ht; exact hpn) (hu x W { c with fz := f })
    obtain ⟨_, r1⟩ := (sound_in hext hlate t (some l) m k).1 n assign _ _ _ _ _ sa oa e1
    refine r1 H0 S0 fun W1 c1 a1 E1 H1 S1 _ => ?_
    have hl1 := E1.keep l (by show f l; rw [hf]; exact .inr (.inl rfl))
    have hD1 := E1.keep D (by show f D; rw [hf]; exact .inr (.inr rfl))
    refine ⟨hl1, hD1, fun o' ho' => ?_⟩
    rw [hl] at hl1
    have hlt1 := (Array.getElem?_eq_some_iff.1 hl1).1
    obtain ⟨_, r2⟩ := (sound_in hext hlate t (some l) m k2).1 n body _ _ _ _ _ sb ob e2
    refine r2 (H1.turn hl1 ho ho') (S1.turn hl1 ho ho') fun W2 c2 a2 E2 H2 S2 _ => ?_
    have fl : c1.fz l := E1.fz l (by show f l; rw [hf]; exact .inr (.inl rfl))
    have fD : c1.fz D := E1.fz D (by show f D; rw [hf]; exact .inr (.inr rfl))
    refine ⟨(E2.keep l fl).trans (World.putObj_heap_same hlt1), (E2.keep D fD).trans ((World.putObj_heap_other (Ne.symm hne)).trans hD1), c2, h2, ?_, H2, hR⟩
    have E01 := E0.trans E1
    have E012 := E01.turn hl1 ho ho' (Nat.le_trans H.base hle) (fun b hb e => by have := H.fzlt b hb; omega) (fun b hp e => by have := (H.priv b hp).1; omega)
    exact E012.trans E2

theorem round_WP {α : Type} (hext : ExtOk P cfg) (hlate : ∀ id n, cfg.late id n = []) (t : Nat) {m : Nat} {p : Tmp} {assign body : Code} {a : Act} {w : World} {c : Ctx} {h : Hp} {n : Nat} {st : St} (H : HR w c h) (S : SR n w c st a) (hpn : p < n)
    (sa : calm t assign = true) (sb : calm t body = true) (oa : codeOk cfg n assign = true) (ob : codeOk cfg n body = true)
    {enc : α → Value} {u : α → AV} (hu : ∀ x w c, VR w c (u x) (enc x)) {N : Nat} (Φ : List α → Prop) (R : List α → Hp → Prop)
    (hmach : ∀ (pre : List α) (x : α), Φ pre → pre.length < N →
      (WP P cfg assign (upd (viewSt h st) p (u x)) Hp.empty fun e st1 h1 => e = .normal ∧ WP P cfg body st1 h1 fun e2 _ _ => e2 = .normal ∧ Φ (pre ++ [x])) ∨
      (WP P cfg assign (upd st p (u x)) h fun e st1 h1 => e = .normal ∧ WP P cfg body st1 h1 fun e2 _ h2 => e2 = .ret ∧ R (pre ++ [x]) h2)) :
    ∀ (l D : Nat) (pre : List α) (x : α) (W : World) (o : Obj), Below w.heap.size w W → Φ pre → pre.length < N → W.heap[l]? = some o → Loopy o → (∃ d, W.heap[D]? = some (.deferred d)) → w.heap.size ≤ l → w.heap.size ≤ D → l ≠ D →
      assign.wpIn (rF (some l)) m P (Exit.then (fun a1 W1 => W1.heap[l]? = W.heap[l]? ∧ W1.heap[D]? = W.heap[D]? ∧ ∀ o', Loopy o' → body.wpIn (rF (some l)) m P (postC W W1 l D o' Φ (fun xs => LeftR w c (R xs)) (pre ++ [x])) a1 (W1.putObj l o')) (fun _ _ _ => False))
        { tmps := ((#[p] : Array Tmp).zip #[enc x]).foldl (fun t (p, v) => t.setIfInBounds p v) a.tmps, defers := [] } W := by
  refine round_law hext hlate t H S hpn sa sb oa ob hu Φ R fun pre x h1 h2 => ?_
  rcases hmach pre x h1 h2 with ⟨k, e, st1, h1, e1, rfl, k2, e2, st2, h2, e3, rfl, q⟩ | ⟨k, e, st1, h1, e1, rfl, k2, e2, st2, h2, e3, rfl, q⟩
  · exact .inl ⟨k, st1, h1, k2, st2, h2, e1, e3, q⟩
  · exact .inr ⟨k, st1, h1, k2, st2, h2, e1, e3, q⟩

/-- What the machine shows of a part of the code. -/
theorem WP.in_ (hext : ExtOk P cfg) (hlate : ∀ id n, cfg.late id n = []) (t : Nat) {c : Code} {n : Nat} (hc : calm t c = true) (ho : codeOk cfg n c = true) {st : St} {h : Hp} {R : Exit → St → Hp → Prop} (hw : WP P cfg c st h R)
    {ro : Option Nat} {m : Nat} {w : World} {ctx : Ctx} {a : Act} (H : HR w ctx h) (S : SR n w ctx st a) {Q : Exit → Act → World → Prop}
    (hQ : ∀ x st' h', R x st' h' → ∀ w' c' a', Ext w ctx w' c' → HR w' c' h' → SR n w' c' st' a' → Frz t a a' → Q x a' w') : c.wpIn (rF ro) m P Q a w := by
  obtain ⟨k, x, st', h', e, r⟩ := hw
  exact ((sound_in hext hlate t ro m k).1 n c _ _ _ _ _ hc ho e).2 H S (hQ x st' h' r)

/-- A call of what stands for the body. -/
theorem call_yield {l : Nat} {args : Array Value} {W : World} {fn : FuncId} {tmps : Array Value} {assign body : Code} (hy : (Instr.yield l args).run P W = .ok (.round l fn tmps assign body) W)
    {ρ : Operand → Value} {o : Oper} {f : Operand} {xs : Array Operand} {ts : Array TypeId} (ho : o.op = .call ⟨.value f, xs, ts⟩) (hf : ρ f = .func (.yield l) #[] #[]) (hx : xs.map ρ = args) :
    (execOp ρ o).run P W = .ok (.round l fn tmps assign body) W := by
  subst hx
  simp only [execOp, ho, resolve, hf, Deferred.ofValue, Sem.run_bind, Sem.run_pure, Result.andThen_ok, invoke]
  simpa using hy

/-- A function with such a loop is left. -/
theorem leave_ok {fn : Func} {n m : Nat} {w W : World} {c c' : Ctx} {h' : Hp} {st : St} {a : Act} {D : Nat} {v r : AV} {ow kn : Bool} {ts : List TypeId} {R : Ending → World → Prop}
    (E : Ext w c W c') (H : HR W c' h') (S : SR n W c' st a) (hK : W.heap[D]? = some (.deferred (some []))) (hD : c.base ≤ D) (hf : ∀ b, c.fz b → b ≠ D) (hpv : ∀ b, c.pv b → b ≠ D)
    (hr : resR P h' st fn.results.toList = some v) (he : exportR P ow kn ts h' v = some r)
    (hR : ∀ x w' fz', Below c.base w w' → (∀ b, c.fz b → fz' b) → (∀ b, fz' b → c.fz b ∨ (c.base ≤ b ∧ b < w'.heap.size)) → ResOk w' c.base fz' r x → R (.returned x) w') :
    LeavesInM (rF none) m P fn a.tmps R [{ target := .collected D, args := #[] }] .returning W := by
  refine ⟨by simp, .inl ⟨_, _, rfl, run_takeDeferred hK, ?_⟩⟩
  have E2 := E.turn (o := .deferred (some [])) (o' := .deferred none) hK trivial trivial hD hf hpv
  have H2 := H.turn (o' := .deferred none) hK trivial trivial
  have S2 := S.turn (o' := .deferred none) hK trivial trivial
  obtain ⟨x, h1, h2⟩ := resR_ok (P := P) (fn := fn) H2 S2 hr
  refine ⟨x, h1, ?_⟩
  obtain ⟨c2, h3, E3, H3, hres⟩ := exportR_ok (P := P) H2 h2 he
  have hb : c'.base = c.base := E.base
  rw [hb] at hres
  exact hR x _ c2.fz E2.below (fun b hb => E3.fz b (E2.fz b hb)) (fun b hfb => by
    have hlt : b < (W.putObj D (.deferred none)).heap.size := by
      have := H3.fzlt b hfb
      exact this
    rcases (E2.trans E3).fzb b hfb with h | h
    · exact .inl h
    · exact .inr ⟨h, hlt⟩) hres

end Go.Am

