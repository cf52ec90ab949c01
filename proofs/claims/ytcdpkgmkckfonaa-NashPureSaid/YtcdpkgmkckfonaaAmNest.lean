/-
  Ranges over functions, one within another: rounds that leave what they find alone, or leave their loop for good.
-/
import Derived.Test.YtcdpkgmkckfonaaAmRange
set_option linter.unusedVariables false
set_option linter.unusedSimpArgs false
namespace Go.Am
open Go Go.RowKit
variable {P : Program} {cfg : Cfg}

/-- A value that reads as x; it leans on given blocks and on blocks from n on at most. -/
def Rep (f0 : Nat → Prop) (n : Nat) (W : World) (x : AV) (v : Value) : Prop := ∀ c : Ctx, (∀ b, f0 b → c.fz b) → (∀ b, n ≤ b → b < W.heap.size → c.fz b) → VR W c x v
theorem Rep.le {f0 : Nat → Prop} {n n' : Nat} {W : World} {x : AV} {v : Value} (h : Rep f0 n W x v) (hn : n' ≤ n) : Rep f0 n' W x v := fun c hf hc => h c hf fun b hb => hc b (by omega)

/-- What an iterator owes: it hands over these values, one after the other. -/
def SeqN (P : Program) (m gf : Nat) (lb : Array Value) (f0 : Nat → Prop) (xs : List AV) (w : World) : Prop :=
  ∀ (l : Nat) (J Jx : List AV → World → Prop) (W : World), Below w.heap.size w W → (∀ s A B, J s A → Below W.heap.size A B → J s B) →
    (∀ s A o o' k, W.heap.size ≤ k → A.heap[k]? = some o → Loopy o → Loopy o' → Jx s A → Jx s (A.putObj k o')) →
    (∀ pre x v W1, pre ++ [x] <+: xs → Below W.heap.size W W1 → J pre W1 → Rep f0 W.heap.size W1 x v → YieldAt (rF none) m P l #[v] W1 fun e W' => (e = .returned (.bool true) ∧ J (pre ++ [x]) W' ∧ Below W1.heap.size W1 W') ∨
      (e = .returned (.bool false) ∧ Jx (pre ++ [x]) W' ∧ W1.heap.size ≤ W'.heap.size ∧ ∀ k, W.heap.size ≤ k → k < W1.heap.size → W'.heap[k]? = W1.heap[k]?)) →
    J [] W → CallsIn (rF none) m P gf (#[.func (.yield l) #[] #[]] ++ lb) W fun e W' => (∃ v, e = .returned v) ∧ (J xs W' ∨ (∃ pre x, pre ++ [x] <+: xs ∧ Jx (pre ++ [x]) W'))

/-- How a round's body may be left: at its end, or for good. -/
def postN (B : Nat) (W W1 : World) (l : Nat) (o' : Obj) (Φ : List AV → World → Prop) (Ψ : Code → List AV → World → Prop) (xs : List AV) : Exit → Act → World → Prop
  | .normal, _, W' => Below W.heap.size W W1 ∧ Below W.heap.size (W1.putObj l o') W' ∧ Φ xs W'
  | .ret, _, W' => W'.heap[l]? = some o' ∧ W.heap.size ≤ W'.heap.size ∧ (∀ k, B ≤ k → k < W.heap.size → k ≠ l → W'.heap[k]? = W.heap[k]?) ∧ Ψ .ret xs W'
  | .exit id, _, W' => W'.heap[l]? = some o' ∧ W.heap.size ≤ W'.heap.size ∧ (∀ k, B ≤ k → k < W.heap.size → k ≠ l → W'.heap[k]? = W.heap[k]?) ∧ Ψ (.exit id) xs W'
  | _, _, _ => False

theorem below_turn {n : Nat} {W : World} {l : Nat} {o : Obj} (h : n ≤ l) : Below n W (W.putObj l o) :=
  ⟨rfl, rfl, rfl, by simp [World.putObj], fun k hk => World.putObj_heap_other (by omega)⟩

/-- A loop over a function, outside of any round. -/
theorem range_lawN {m : Nat} {g : Operand} {p : Tmp} {assign body : Code} {Q : Exit → Act → World → Prop} {a : Act} {w : World}
    {gf : Nat} {lb : Array Value} (hg : a.eval g = .func (.func gf) #[] lb) (eg : ∀ args w, (callFunc gf args).run P w = .ok (.enter gf args) w)
    {f0 : Nat → Prop} {xs : List AV} (hseq : SeqN P m gf lb f0 xs w)
    (Φ : List AV → World → Prop) (Ψ : Code → List AV → World → Prop) (hΦ : ∀ s A B, Φ s A → Below w.heap.size A B → Φ s B) (h0 : Φ [] w)
    (hΨ : ∀ c s A o o' k, w.heap.size ≤ k → A.heap[k]? = some o → Loopy o → Loopy o' → Ψ c s A → Ψ c s (A.putObj k o'))
    (hround : ∀ (l : Nat) (pre : List AV) (x : AV) (v : Value) (W : World) (r : Loop), pre ++ [x] <+: xs → Below w.heap.size w W → Φ pre W → Rep f0 w.heap.size W x v → W.heap[l]? = some (.loop r) → w.heap.size ≤ l →
      assign.wpIn (rF (some l)) m P (Exit.then (fun a1 W1 => (∀ k, w.heap.size ≤ k → k < W.heap.size → W1.heap[k]? = W.heap[k]?) ∧ ∀ r', body.wpIn (rF (some l)) m P (postN w.heap.size W W1 l (.loop r') Φ Ψ (pre ++ [x])) a1 (W1.putObj l (.loop r'))) (fun _ _ _ => False))
        { tmps := a.tmps.setIfInBounds p v, defers := [] } W)
    (hdone : ∀ (D : Nat) (W : World), Φ xs W → Below w.heap.size w W → D = w.heap.size → W.heap[D]? = some (.deferred (some [])) → Q .normal { a with defers := { target := .collected D, args := #[] } :: a.defers } W)
    (hstop : ∀ (D : Nat) (c : Code) (pre : List AV) (x : AV) (W : World), pre ++ [x] <+: xs → Ψ c (pre ++ [x]) W → D = w.heap.size → W.heap[D]? = some (.deferred (some [])) → c.wpIn (rF none) (m + 1) P Q { a with defers := { target := .collected D, args := #[] } :: a.defers } W) :
    (Code.rangeFunc g #[p] assign body).wpIn (rF none) (m + 1) P Q a w := by
  refine wpIn_rangeFunc ?_
  intro fn hfn
  obtain ⟨rec, hrec⟩ : ∃ rec : LoopState → Option Code → Loop, rec = fun st pe => { state := st, pending := pe, fn, tmps := a.tmps, params := #[p], assign, body, defers := w.heap.size } := ⟨_, rfl⟩
  obtain ⟨W1, hW1⟩ : ∃ W1, (w.alloc (.deferred (some []))).alloc (.loop (rec .ready none)) = W1 := ⟨_, rfl⟩
  have hL1 : W1.heap[w.heap.size + 1]? = some (.loop (rec .ready none)) := by
    rw [← hW1]; have := World.alloc_heap_new (w.alloc (.deferred (some []))) (.loop (rec .ready none)); rwa [World.size_alloc] at this
  have hK1 : W1.heap[w.heap.size]? = some (.deferred (some [])) := by
    rw [← hW1]; exact (Below.heap_alloc _ _ _ (by simp)).trans (World.alloc_heap_new w _)
  have hs1 : W1.heap.size = w.heap.size + 2 := by rw [← hW1]; simp
  have hb1 : Below w.heap.size w W1 := by
    rw [← hW1]; exact ((Below.refl _ w).alloc (Nat.le_refl _) _).alloc (by simp) _
  refine ⟨w.heap.size + 1, [{ target := .collected w.heap.size, args := #[] }], W1, { target := .fn (.func gf) lb, args := #[.func (.yield (w.heap.size + 1)) #[] #[]] }, W1, gf,
    #[.func (.yield (w.heap.size + 1)) #[] #[]] ++ lb, W1, ?_, ?_, ?_, ?_, fun h => (by cases h), ?_⟩
  · rw [← hW1, hrec]; exact run_enterLoop_outer _ _ _ _ _
  · simp only [resolve, hg]
    simp [go_sem]
  · intro f' hf'; trivial
  · simp [invoke, go_sem, eg]
  · refine (hseq (w.heap.size + 1)
      (fun pre W => (Below w.heap.size w W ∧ Φ pre W) ∧ W.heap[w.heap.size + 1]? = some (.loop (rec .ready none)) ∧ W.heap[w.heap.size]? = some (.deferred (some [])))
      (fun pre W => ∃ c, Ψ c pre W ∧ W.heap[w.heap.size + 1]? = some (.loop (rec .done (some c))) ∧ W.heap[w.heap.size]? = some (.deferred (some [])))
      W1 hb1 (fun s A B ⟨⟨h1, h2⟩, h3, h4⟩ hAB => ⟨⟨h1.trans (Below.mono' hAB (by omega)), hΦ _ _ _ h2 (Below.mono' hAB (by omega))⟩, (hAB.block _ (by omega)).trans h3, (hAB.block _ (by omega)).trans h4⟩)
      (fun s A o o' k hk ho l1 l2 ⟨c, h1, h2, h3⟩ => ⟨c, hΨ _ _ _ _ _ _ (by omega) ho l1 l2 h1, (World.putObj_heap_other (by omega)).trans h2, (World.putObj_heap_other (by omega)).trans h3⟩) ?_ ⟨⟨hb1, hΦ _ _ _ h0 hb1⟩, hL1, hK1⟩).mono ?_
    · rintro pre x v W hpx hbW ⟨⟨hB, hi⟩, hl, hk⟩ hrep
      have hlt : w.heap.size + 1 < W.heap.size := (Array.getElem?_eq_some_iff.1 hl).1
      have hy := run_yield (P := P) (args := #[v]) hl (by rw [hrec]; rfl)
      rw [hrec] at hy
      refine ⟨fn, _, assign, body, hy, roundIn_of_wpIn hfn ?_⟩
      have hact : Array.foldl (fun (tmps : Array Value) (x : Tmp × Value) => match x with | (t, a) => tmps.setIfInBounds t a) a.tmps ((#[p] : Array Tmp).zip #[v]) = a.tmps.setIfInBounds p v := by simp
      dsimp only
      rw [hact]
      refine wpIn_mono (hround (w.heap.size + 1) pre x v W _ hpx hB hi (hrep.le (by omega)) hl (by omega)) ?_
      intro e a1 W2 hp
      cases e with
      | normal =>
        obtain ⟨hkeep, hbody⟩ := hp
        have hl2 := (hkeep (w.heap.size + 1) (by omega) hlt).trans hl
        have hk2 := (hkeep w.heap.size (by omega) (by omega)).trans hk
        have hlt2 := (Array.getElem?_eq_some_iff.1 hl2).1
        refine ⟨_, run_beginRound hl2 (by rw [hrec]), wpIn_mono (hbody { rec .ready none with state := .busy }) ?_⟩
        have stop : ∀ (c : Code) (W3 : World), W3.heap[w.heap.size + 1]? = some (.loop { rec .ready none with state := .busy }) → W.heap.size ≤ W3.heap.size → (∀ k, w.heap.size ≤ k → k < W.heap.size → k ≠ w.heap.size + 1 → W3.heap[k]? = W.heap[k]?) → Ψ c (pre ++ [x]) W3 →
            ∃ v' W', (Instr.endRound (w.heap.size + 1) (some c)).run P W3 = .ok v' W' ∧ v' = .bool false ∧ (∃ c, Ψ c (pre ++ [x]) W' ∧ W'.heap[w.heap.size + 1]? = some (.loop (rec .done (some c))) ∧ W'.heap[w.heap.size]? = some (.deferred (some []))) ∧ W.heap.size ≤ W'.heap.size ∧ ∀ k, W1.heap.size ≤ k → k < W.heap.size → W'.heap[k]? = W.heap[k]? := by
          intro c W3 hl3 hsz hkp hψ
          have hr := run_endRound (P := P) (some c) hl3
          have hlt3 := (Array.getElem?_eq_some_iff.1 hl3).1
          refine ⟨_, _, hr, rfl, ⟨c, hΨ _ _ _ _ _ _ (by omega) hl3 trivial trivial hψ, ?_, (World.putObj_heap_other (by omega)).trans ((hkp w.heap.size (by omega) (by omega) (by omega)).trans hk)⟩, ?_, fun k hk1 hk2 => ?_⟩
          · rw [World.putObj_heap_same hlt3, hrec]; rfl
          · simp only [World.putObj, Array.size_setIfInBounds]; exact hsz
          · rw [World.putObj_heap_other (by omega)]; exact hkp k (by omega) hk2 (by omega)
        rintro e a3 W3 hp
        cases e with
        | normal =>
          obtain ⟨hA, hC, hφ⟩ := hp
          have hl3 : W3.heap[w.heap.size + 1]? = some (.loop { rec .ready none with state := .busy }) := (hC.block _ (by omega)).trans (World.putObj_heap_same hlt2)
          have hr := run_endRound (P := P) none hl3
          have hlt3 := (Array.getElem?_eq_some_iff.1 hl3).1
          have hrr : (Obj.loop { ({ rec .ready none with state := .busy } : Loop) with state := if (none : Option Code).isNone then .ready else .done, pending := none }) = .loop (rec .ready none) := by rw [hrec]; rfl
          rw [hrr] at hr
          have hfull : Below W.heap.size W (W3.putObj (w.heap.size + 1) (.loop (rec .ready none))) := by
            refine ⟨hC.os.trans hA.os, hC.tape.trans hA.tape, hC.output.trans hA.output, ?_, fun k hk' => ?_⟩
            · have h1 := hA.size; have h2 := hC.size
              simp only [World.putObj, Array.size_setIfInBounds] at h2 ⊢
              omega
            · by_cases e : k = w.heap.size + 1
              · rw [e, World.putObj_heap_same hlt3, hl]
              · rw [World.putObj_heap_other e, hC.block k hk', World.putObj_heap_other e]; exact hA.block k hk'
          exact ⟨_, _, hr, .inl ⟨rfl, ⟨⟨hB.trans (Below.mono' hfull (by omega)), hΦ _ _ _ hφ (below_turn (by omega))⟩, (hfull.block _ hlt).trans hl, (hfull.block _ (by omega)).trans hk⟩, hfull⟩⟩
        | ret =>
          obtain ⟨hl3, hsz, hkp, hψ⟩ := hp
          obtain ⟨v', W', hr, hv, h1, h2, h3⟩ := stop _ _ hl3 hsz hkp hψ
          exact ⟨_, _, hr, .inr ⟨by rw [hv], h1, h2, h3⟩⟩
        | exit id =>
          obtain ⟨hl3, hsz, hkp, hψ⟩ := hp
          obtain ⟨v', W', hr, hv, h1, h2, h3⟩ := stop _ _ hl3 hsz hkp hψ
          exact ⟨_, _, hr, .inr ⟨by rw [hv], h1, h2, h3⟩⟩
        | goto t => exact hp.elim
        | panic ch => exact hp.elim
        | outgrown => exact hp.elim
      | exit id => exact hp.elim
      | goto t => exact hp.elim
      | ret => exact hp.elim
      | panic ch => exact hp.elim
      | outgrown => exact hp.elim
    · rintro e W2 ⟨⟨v, rfl⟩, (⟨⟨hB, hi⟩, hl, hk⟩ | ⟨pre, x, hpx, c, hψ, hl, hk⟩)⟩
      · refine ⟨none, _, by have := run_endLoop (P := P) hl (by rw [hrec]; simp); rw [hrec] at this; exact this, ?_⟩
        refine hdone _ _ (hΦ _ _ _ hi (below_turn (by omega))) (hB.trans (below_turn (by omega))) rfl ((World.putObj_heap_other (by omega)).trans hk)
      · refine ⟨some c, _, by have := run_endLoop (P := P) hl (by rw [hrec]; simp); rw [hrec] at this; exact this, ?_⟩
        exact hstop _ c pre x _ hpx (hΨ _ _ _ _ _ _ (by omega) hl trivial trivial hψ) rfl ((World.putObj_heap_other (by omega)).trans hk)

/-- A loop over a function, within a round. -/
theorem range_lawI {m l0 : Nat} {r0 : Loop} {g : Operand} {p : Tmp} {assign body : Code} {Q : Exit → Act → World → Prop} {a : Act} {w : World}
    (hl0 : w.heap[l0]? = some (.loop r0))
    {gf : Nat} {lb : Array Value} (hg : a.eval g = .func (.func gf) #[] lb) (eg : ∀ args w, (callFunc gf args).run P w = .ok (.enter gf args) w)
    {f0 : Nat → Prop} {xs : List AV} (hseq : SeqN P m gf lb f0 xs w)
    (Φ : List AV → World → Prop) (Ψ : Code → List AV → World → Prop) (hΦ : ∀ s A B, Φ s A → Below w.heap.size A B → Φ s B) (h0 : Φ [] w)
    (hΨ : ∀ c s A o o' k, w.heap.size ≤ k → A.heap[k]? = some o → Loopy o → Loopy o' → Ψ c s A → Ψ c s (A.putObj k o'))
    (hround : ∀ (l : Nat) (pre : List AV) (x : AV) (v : Value) (W : World) (r : Loop), pre ++ [x] <+: xs → Below w.heap.size w W → Φ pre W → Rep f0 w.heap.size W x v → W.heap[l]? = some (.loop r) → w.heap.size ≤ l →
      assign.wpIn (rF (some l)) m P (Exit.then (fun a1 W1 => (∀ k, w.heap.size ≤ k → k < W.heap.size → W1.heap[k]? = W.heap[k]?) ∧ ∀ r', body.wpIn (rF (some l)) m P (postN w.heap.size W W1 l (.loop r') Φ Ψ (pre ++ [x])) a1 (W1.putObj l (.loop r'))) (fun _ _ _ => False))
        { tmps := a.tmps.setIfInBounds p v, defers := [] } W)
    (hdone : ∀ (W : World), Φ xs W → Below w.heap.size w W → Q .normal a W)
    (hstop : ∀ (c : Code) (pre : List AV) (x : AV) (W : World), pre ++ [x] <+: xs → Ψ c (pre ++ [x]) W → c.wpIn (rF (some l0)) (m + 1) P Q a W) :
    (Code.rangeFunc g #[p] assign body).wpIn (rF (some l0)) (m + 1) P Q a w := by
  refine wpIn_rangeFunc ?_
  intro fn hfn
  obtain ⟨rec, hrec⟩ : ∃ rec : LoopState → Option Code → Loop, rec = fun st pe => { state := st, pending := pe, fn, tmps := a.tmps, params := #[p], assign, body, defers := r0.defers } := ⟨_, rfl⟩
  obtain ⟨W1, hW1⟩ : ∃ W1, w.alloc (.loop (rec .ready none)) = W1 := ⟨_, rfl⟩
  have hL1 : W1.heap[w.heap.size]? = some (.loop (rec .ready none)) := by rw [← hW1]; exact World.alloc_heap_new w _
  have hs1 : W1.heap.size = w.heap.size + 1 := by rw [← hW1]; simp
  have hb1 : Below w.heap.size w W1 := by rw [← hW1]; exact (Below.refl _ w).alloc (Nat.le_refl _) _
  refine ⟨w.heap.size, [], W1, { target := .fn (.func gf) lb, args := #[.func (.yield w.heap.size) #[] #[]] }, W1, gf,
    #[.func (.yield w.heap.size) #[] #[]] ++ lb, W1, ?_, ?_, ?_, ?_, fun h => (by cases h), ?_⟩
  · rw [← hW1, hrec]; exact run_enterLoop_inner hl0 _ _ _ _ _
  · simp only [resolve, hg]
    simp [go_sem]
  · intro f' hf'; trivial
  · simp [invoke, go_sem, eg]
  · refine (hseq w.heap.size
      (fun pre W => (Below w.heap.size w W ∧ Φ pre W) ∧ W.heap[w.heap.size]? = some (.loop (rec .ready none)))
      (fun pre W => ∃ c, Ψ c pre W ∧ W.heap[w.heap.size]? = some (.loop (rec .done (some c))))
      W1 hb1 (fun s A B ⟨⟨h1, h2⟩, h3⟩ hAB => ⟨⟨h1.trans (Below.mono' hAB (by omega)), hΦ _ _ _ h2 (Below.mono' hAB (by omega))⟩, (hAB.block _ (by omega)).trans h3⟩)
      (fun s A o o' k hk ho l1 l2 ⟨c, h1, h2⟩ => ⟨c, hΨ _ _ _ _ _ _ (by omega) ho l1 l2 h1, (World.putObj_heap_other (by omega)).trans h2⟩) ?_ ⟨⟨hb1, hΦ _ _ _ h0 hb1⟩, hL1⟩).mono ?_
    · rintro pre x v W hpx hbW ⟨⟨hB, hi⟩, hl⟩ hrep
      have hlt : w.heap.size < W.heap.size := (Array.getElem?_eq_some_iff.1 hl).1
      have hy := run_yield (P := P) (args := #[v]) hl (by rw [hrec]; rfl)
      rw [hrec] at hy
      refine ⟨fn, _, assign, body, hy, roundIn_of_wpIn hfn ?_⟩
      have hact : Array.foldl (fun (tmps : Array Value) (x : Tmp × Value) => match x with | (t, a) => tmps.setIfInBounds t a) a.tmps ((#[p] : Array Tmp).zip #[v]) = a.tmps.setIfInBounds p v := by simp
      dsimp only
      rw [hact]
      refine wpIn_mono (hround w.heap.size pre x v W _ hpx hB hi (hrep.le (by omega)) hl (by omega)) ?_
      intro e a1 W2 hp
      cases e with
      | normal =>
        obtain ⟨hkeep, hbody⟩ := hp
        have hl2 := (hkeep w.heap.size (by omega) hlt).trans hl
        have hlt2 := (Array.getElem?_eq_some_iff.1 hl2).1
        refine ⟨_, run_beginRound hl2 (by rw [hrec]), wpIn_mono (hbody { rec .ready none with state := .busy }) ?_⟩
        have stop : ∀ (c : Code) (W3 : World), W3.heap[w.heap.size]? = some (.loop { rec .ready none with state := .busy }) → W.heap.size ≤ W3.heap.size → (∀ k, w.heap.size ≤ k → k < W.heap.size → k ≠ w.heap.size → W3.heap[k]? = W.heap[k]?) → Ψ c (pre ++ [x]) W3 →
            ∃ v' W', (Instr.endRound w.heap.size (some c)).run P W3 = .ok v' W' ∧ v' = .bool false ∧ (∃ c, Ψ c (pre ++ [x]) W' ∧ W'.heap[w.heap.size]? = some (.loop (rec .done (some c)))) ∧ W.heap.size ≤ W'.heap.size ∧ ∀ k, W1.heap.size ≤ k → k < W.heap.size → W'.heap[k]? = W.heap[k]? := by
          intro c W3 hl3 hsz hkp hψ
          have hr := run_endRound (P := P) (some c) hl3
          have hlt3 := (Array.getElem?_eq_some_iff.1 hl3).1
          refine ⟨_, _, hr, rfl, ⟨c, hΨ _ _ _ _ _ _ (by omega) hl3 trivial trivial hψ, ?_⟩, ?_, fun k hk1 hk2 => ?_⟩
          · rw [World.putObj_heap_same hlt3, hrec]; rfl
          · simp only [World.putObj, Array.size_setIfInBounds]; exact hsz
          · rw [World.putObj_heap_other (by omega)]; exact hkp k (by omega) hk2 (by omega)
        rintro e a3 W3 hp
        cases e with
        | normal =>
          obtain ⟨hA, hC, hφ⟩ := hp
          have hl3 : W3.heap[w.heap.size]? = some (.loop { rec .ready none with state := .busy }) := (hC.block _ (by omega)).trans (World.putObj_heap_same hlt2)
          have hr := run_endRound (P := P) none hl3
          have hlt3 := (Array.getElem?_eq_some_iff.1 hl3).1
          have hrr : (Obj.loop { ({ rec .ready none with state := .busy } : Loop) with state := if (none : Option Code).isNone then .ready else .done, pending := none }) = .loop (rec .ready none) := by rw [hrec]; rfl
          rw [hrr] at hr
          have hfull : Below W.heap.size W (W3.putObj w.heap.size (.loop (rec .ready none))) := by
            refine ⟨hC.os.trans hA.os, hC.tape.trans hA.tape, hC.output.trans hA.output, ?_, fun k hk' => ?_⟩
            · have h1 := hA.size; have h2 := hC.size
              simp only [World.putObj, Array.size_setIfInBounds] at h2 ⊢
              omega
            · by_cases e : k = w.heap.size
              · rw [e, World.putObj_heap_same hlt3, hl]
              · rw [World.putObj_heap_other e, hC.block k hk', World.putObj_heap_other e]; exact hA.block k hk'
          exact ⟨_, _, hr, .inl ⟨rfl, ⟨⟨hB.trans (Below.mono' hfull (by omega)), hΦ _ _ _ hφ (below_turn (by omega))⟩, (hfull.block _ hlt).trans hl⟩, hfull⟩⟩
        | ret =>
          obtain ⟨hl3, hsz, hkp, hψ⟩ := hp
          obtain ⟨v', W', hr, hv, h1, h2, h3⟩ := stop _ _ hl3 hsz hkp hψ
          exact ⟨_, _, hr, .inr ⟨by rw [hv], h1, h2, h3⟩⟩
        | exit id =>
          obtain ⟨hl3, hsz, hkp, hψ⟩ := hp
          obtain ⟨v', W', hr, hv, h1, h2, h3⟩ := stop _ _ hl3 hsz hkp hψ
          exact ⟨_, _, hr, .inr ⟨by rw [hv], h1, h2, h3⟩⟩
        | goto t => exact hp.elim
        | panic ch => exact hp.elim
        | outgrown => exact hp.elim
      | exit id => exact hp.elim
      | goto t => exact hp.elim
      | ret => exact hp.elim
      | panic ch => exact hp.elim
      | outgrown => exact hp.elim
    · rintro e W2 ⟨⟨v, rfl⟩, (⟨⟨hB, hi⟩, hl⟩ | ⟨pre, x, hpx, c, hψ, hl⟩)⟩
      · refine ⟨none, _, by have := run_endLoop (P := P) hl (by rw [hrec]; simp); rw [hrec] at this; exact this, ?_⟩
        exact hdone _ (hΦ _ _ _ hi (below_turn (by omega))) (hB.trans (below_turn (by omega)))
      · refine ⟨some c, _, by have := run_endLoop (P := P) hl (by rw [hrec]; simp); rw [hrec] at this; exact this, ?_⟩
        exact hstop c pre x _ hpx (hΨ _ _ _ _ _ _ (by omega) hl trivial trivial hψ)
section
variable {dp : Bool}
/-- The first operations of a region. -/
theorem runL_pre {t : Nat} {ro : Option Nat} {m : Nat} {call : FuncId → List AV → Hp → Option (AV × Hp)} (hc : OutOk P call) {ops : Array Oper} {lim : Option Nat} {n : Nat} (hn : ∀ (i : Nat) o, ops[i]? = some o → ∀ t, o.dst = some t → t < n) (hnt : ∀ (i : Nat) o, ops[i]? = some o → o.dst ≠ some t) (l2 : List Nat) : ∀ (l : List Nat) (st : St) (h : Hp) {st' : St} {h' : Hp}, runL (stepO P dp call ops lim) ops l st h = some (st', h') →
    ∀ {w : World} {c : Ctx} {a : Act} (H : HR w c h) (S : SR n w c st a) {Q : Exit → Act → World → Prop}, (∀ w' c' a', Ext w c w' c' → HR w' c' h' → SR n w' c' st' a' → Frz t a a' → wpOpsIn (rF ro) m P ops Q l2 a' w') → wpOpsIn (rF ro) m P ops Q (l ++ l2) a w := by
  intro l
  induction l with
  | nil =>
    intro st h st' h' hr w c a H S Q hQ
    simp only [runL, Option.some.injEq, Prod.mk.injEq] at hr
    obtain ⟨rfl, rfl⟩ := hr
    exact hQ w c a (Ext.refl _ _) H S (.refl _ _)
  | cons i l ih =>
    intro st h st' h' hr w c a H S Q hQ
    simp only [runL] at hr
    simp only [List.cons_append, wpOpsIn]
    cases ho : ops[i]? with
    | none => rw [ho] at hr; exact ih st h hr H S hQ
    | some o =>
      rw [ho] at hr
      obtain ⟨⟨st1, h1⟩, e1, hr⟩ := Option.bind_eq_some_iff.1 hr
      have hdst := hn i o ho
      have htd := hnt i o ho
      have run1 : ∀ {v : AV} {h1 : Hp}, stepK P dp call ops lim o st h = some (v, h1) → runL (stepO P dp call ops lim) ops l (updO st o.dst v) h1 = some (st', h') → o.wpIn (rF ro) m P a w (wpOpsIn (rF ro) m P ops Q (l ++ l2)) Q := by
        intro v h1 hk hr
        exact stepK_in hc hk hdst htd H S fun w' c' a' E H' S' F => ih _ _ hr H' S' fun w2 c2 a2 E2 H2 S2 F2 => hQ w2 c2 a2 (E.trans E2) H2 S2 (F.trans F2)
      have skip1 : runL (stepO P dp call ops lim) ops l (updO st o.dst .skp) h = some (st', h') → wpOpsIn (rF ro) m P ops Q (l ++ l2) (a.put o.dst Go.undef) w := by
        intro hr
        exact ih _ _ hr H (S.put hdst .skp) fun w2 c2 a2 E2 H2 S2 F2 => hQ w2 c2 a2 E2 H2 S2 ((Frz.put htd _).trans F2)
      rw [stepO_act] at e1
      obtain ⟨⟨v, h2⟩, ha, e⟩ := Option.map_eq_some_iff.1 e1
      cases e
      unfold act at ha
      cases hg : o.guard with
      | none =>
        rw [hg] at ha
        have hw : Region.wanted o (yielded ops a.tmps) = true := by simp [Region.wanted, hg]
        dsimp only
        rw [if_pos hw]
        exact run1 ha hr
      | some g =>
        obtain ⟨j, w0⟩ := g
        rw [hg] at ha
        dsimp only at ha ⊢
        cases hd : (ops[j]?).bind (·.dst) with
        | none => rw [hd] at ha; cases ha
        | some d =>
          rw [hd] at ha
          dsimp only at ha
          have hdn : d < n := by
            obtain ⟨oj, hoj, hdj⟩ := Option.bind_eq_some_iff.1 hd
            exact hn j oj hoj d hdj
          obtain ⟨y1, y2⟩ := yielded_ok hd S
          cases hst : st d <;> rw [hst] at ha <;> (try (cases ha; done))
          case bool b =>
            have hy := y1 b hst hdn
            dsimp only at ha
            by_cases hb : b = w0
            · rw [if_pos hb] at ha
              have hw : Region.wanted o (yielded ops a.tmps) = true := by simp [Region.wanted, hg, hy, hb]
              rw [if_pos hw]
              exact run1 ha hr
            · rw [if_neg hb] at ha
              cases ha
              have hw : Region.wanted o (yielded ops a.tmps) = false := by simp [Region.wanted, hg, hy, hb]
              rw [hw]
              simp only [Bool.false_eq_true, if_false]
              exact ⟨fun _ _ => trivial, skip1 hr⟩
          case skp =>
            cases ha
            have hy := y2 hst
            have hw : Region.wanted o (yielded ops a.tmps) = false := by simp [Region.wanted, hg, hy]
            rw [hw]
            simp only [Bool.false_eq_true, if_false]
            exact ⟨fun _ _ => trivial, skip1 hr⟩

end

/-! ### Operations one by one -/
theorem op_value {ro : Option Nat} {m : Nat} {ops : Array Oper} {Q : Exit → Act → World → Prop} {l : List Nat} {i : Nat} {o : Oper} {a : Act} {w w' : World} {x : Value} (ho : ops[i]? = some o) (hg : Region.wanted o (yielded ops a.tmps) = true) (hd : ∀ c, o.op ≠ .defer c)
    (hr : (execOp a.eval o).run P w = .ok (.value x) w') (h : wpOpsIn (rF ro) m P ops Q l (a.put o.dst x) w') : wpOpsIn (rF ro) m P ops Q (i :: l) a w := by
  simp only [wpOpsIn, ho, hg, if_true]
  exact next_valueIn hd hr h
theorem roundIn_to {ro ro' : Option Nat} {m m' : Nat} {l : Nat} {f : FuncId} {tmps : Array Value} {assign body : Code} {w : World} {R : Ending → World → Prop} (h : RoundIn (rF ro) m P l f tmps assign body w R) : RoundIn (rF ro') m' P l f tmps assign body w R :=
  ⟨h.1, fun c cs _ => h.2 c cs (room_wide _)⟩
/-- A call of what stands for a body. -/
theorem op_yield {ro : Option Nat} {m m' : Nat} {ops : Array Oper} {Q : Exit → Act → World → Prop} {l : List Nat} {i lp : Nat} {o : Oper} {f x : Tmp} {ts : Array TypeId} {v : Value} {a : Act} {w : World} {R : Ending → World → Prop} (ho : ops[i]? = some o) (hg : Region.wanted o (yielded ops a.tmps) = true)
    (hop : o.op = .call ⟨.value (.tmp f), #[.tmp x], ts⟩) (hf : a.eval (.tmp f) = .func (.yield lp) #[] #[]) (hx : a.eval (.tmp x) = v) (hY : YieldAt (rF none) m' P lp #[v] w R)
    (hR : ∀ e w', R e w' → ∃ b, e = .returned (.bool b) ∧ wpOpsIn (rF ro) m P ops Q l (a.put o.dst (.bool b)) w') : wpOpsIn (rF ro) m P ops Q (i :: l) a w := by
  simp only [wpOpsIn, ho, hg, if_true]
  obtain ⟨fn, tmps, assign, body, hyr, hRo⟩ := hY
  have hcall := call_yield (P := P) hyr (ρ := a.eval) (o := o) hop hf (by simp [hx])
  refine ⟨fun _ _ => trivial, ?_⟩
  rw [Oper.semAt_eq _ _ _ (fun c h => by rw [hop] at h; cases h), hcall, Oper.uponIn_round]
  refine ⟨fun h => (by cases h), roundIn_to (ro := none) (m := m') (hRo.mono ?_)⟩
  intro e w' hr
  obtain ⟨b, rfl, h⟩ := hR e w' hr
  exact h
theorem pick_run {ρ : Operand → Value} {w : World} {x y z : Operand} {b : Bool} {d : Option Nat} {u : TypeId} {p : String} {es : Array Edge} {g : Option (Nat × Bool)} (h : ρ x = .bool b) : (execOp ρ ⟨d, .pick x y z, u, p, es, g⟩).run P w = .ok (.value (if b then ρ y else ρ z)) w := by
  unfold execOp
  simp only [h]
  cases b <;> rfl
theorem not_run' {ρ : Operand → Value} {w : World} {x : Operand} {b : Bool} {d : Option Nat} {t u : TypeId} {p : String} {es : Array Edge} {g : Option (Nat × Bool)} (h : ρ x = .bool b) : (execOp ρ ⟨d, .unOp .not t x, u, p, es, g⟩).run P w = .ok (.value (.bool (!b))) w := by
  unfold execOp
  simp only [h]
  rfl
theorem wanted_none {o : Oper} {f : Nat → Option Bool} (h : o.guard = none) : Region.wanted o f = true := by simp [Region.wanted, h]
theorem wanted_some {o : Oper} {f : Nat → Option Bool} {j : Nat} {b : Bool} (h : o.guard = some (j, b)) (hf : f j = some b) : Region.wanted o f = true := by simp [Region.wanted, h, hf]
theorem yielded_at {ops : Array Oper} {a : Act} {j d : Nat} {b : Bool} (hd : (ops[j]?).bind (·.dst) = some d) (h : a.tmps[d]? = some (.bool b)) : yielded ops a.tmps j = some b := by
  unfold yielded; rw [hd, Option.bind_some, h]
theorem eval_tmp {a : Act} {t : Nat} {v : Value} (h : a.tmps[t]? = some v) : a.eval (.tmp t) = v := by
  show a.tmps.getD t Go.undef = _
  rw [Array.getD_eq_getD_getElem?, h]; rfl
theorem put_at {a : Act} {t n : Nat} {v : Value} (h1 : a.tmps.size = n) (h2 : t < n) : (a.put (some t) v).tmps[t]? = some v := by simp [Act.put, h1, h2]
theorem put_size {a : Act} {t n : Nat} {v : Value} (h1 : a.tmps.size = n) : (a.put (some t) v).tmps.size = n := by simp [Act.put, h1]

theorem runL_map {step : Oper → St → Hp → Option (St × Hp)} {ops : Array Oper} : ∀ (l : List Nat) (st : St) (h : Hp), runL step ops l st h = runG step (l.filterMap fun i => ops[i]?) st h
  | [], st, h => rfl
  | i :: l, st, h => by
    simp only [runL]
    cases ho : ops[i]? with
    | none =>
      have e : (i :: l).filterMap (fun i => ops[i]?) = l.filterMap fun i => ops[i]? := by simp [ho]
      rw [e]; exact runL_map l st h
    | some o =>
      have e : (i :: l).filterMap (fun i => ops[i]?) = o :: l.filterMap fun i => ops[i]? := by simp [ho]
      rw [e]
      simp only [runG]
      congr 1
      funext r
      exact runL_map l r.1 r.2
/-- The first operations of a region, by the machine. -/
theorem ops_pre (hext : ExtOk P cfg) {ro : Option Nat} {m : Nat} (t : Nat) {ops : Array Oper} {n : Nat} (hn : (ops.toList.all (tmpsOk n)) = true) (ht : (ops.toList.all fun o => decide (o.dst ≠ some t)) = true) (l1 l2 : List Nat) {st : St} {h : Hp} {R : St → Hp → Prop}
    (hw : OpsW P cfg ops none (l1.filterMap fun i => ops[i]?) st h R) {w : World} {c : Ctx} {a : Act} (H : HR w c h) (S : SR n w c st a) {Q : Exit → Act → World → Prop}
    (hQ : ∀ st' h', R st' h' → ∀ w' c' a', Ext w c w' c' → HR w' c' h' → SR n w' c' st' a' → Frz t a a' → wpOpsIn (rF ro) m P ops Q l2 a' w') : wpOpsIn (rF ro) m P ops Q (l1 ++ l2) a w := by
  obtain ⟨k, st', h', e, r⟩ := hw
  obtain ⟨_, _, _, i4, _⟩ := sound hext k
  rw [runOps_runG, ← runL_map] at e
  refine runL_pre i4 (fun i o ho d hd => ?_) (fun i o ho => ?_) l2 l1 st h e H S fun w' c' a' E H' S' F => hQ st' h' r w' c' a' E H' S' F
  · have := List.all_eq_true.1 hn o (by have := Array.mem_of_getElem? ho; simpa using this)
    simp only [tmpsOk, hd] at this
    exact of_decide_eq_true this
  · exact of_decide_eq_true (List.all_eq_true.1 ht o (by have := Array.mem_of_getElem? ho; simpa using this))
theorem tmp_bool {n : Nat} {w : World} {c : Ctx} {st : St} {a : Act} (S : SR n w c st a) {t : Nat} {b : Bool} (ht : t < n) (h : st t = .bool b) : a.tmps[t]? = some (.bool b) := by
  have hv := S.val t
  rw [h] at hv
  have e := hv.bool_inv
  have hs : t < a.tmps.size := by rw [S.size]; exact ht
  rw [Array.getD_eq_getD_getElem?, Array.getElem?_eq_getElem hs, Option.getD_some] at e
  rw [Array.getElem?_eq_getElem hs, e]
theorem put_other' {a : Act} {t u : Nat} {v : Value} (h : t ≠ u) : (a.put (some t) v).tmps[u]? = a.tmps[u]? := by
  simp [Act.put, Array.getElem?_setIfInBounds, h]
end Go.Am

