/-
  What the second machine comes to, the model comes to.
-/
import Derived.Test.YtcdpkgmkckfonaaAmOut
import Derived.Test.YtcdpkgmkckfonaaAmStrict
set_option linter.unusedVariables false
set_option linter.unusedSimpArgs false
namespace Go.Am
open Go Go.RowKit

section
variable {dp : Bool} {P : Program} {cfg : Cfg}

def ArgsR (w : World) (c : Ctx) (args : List AV) (vs : Array Value) : Prop := args.length = vs.size ∧ ∀ (j : Nat) v, args[j]? = some v → VR w c v (vs.getD j Go.undef)
def Enter (P : Program) (f : FuncId) : Prop := ∃ fn, P.funcs[f]? = some fn ∧ fn.body.isSome = true ∧ (fn.name == "runtime.NumGoroutine") = false

/-- A call in the caller's own memory. -/
def CallOk (P : Program) (f : FuncId) (args : List AV) (h : Hp) (v : AV) (h' : Hp) : Prop :=
  Enter P f ∧ ∀ (w : World) (c : Ctx) (vs : Array Value), HR w c h → ArgsR w c args vs → ∀ R : Ending → World → Prop, (∀ x w' c', Ext w c w' c' → HR w' c' h' → VR w' c' v x → R (.returned x) w') → Calls P f vs w R
/-- A call that shares no memory. -/
def PureOk (P : Program) (f : FuncId) (args : List AV) (r : AV) : Prop :=
  Enter P f ∧ ∀ (w : World) (fz : Nat → Prop) (vs : Array Value), (∀ b, fz b → b < w.heap.size) → ArgsR w (pctx fz) args vs → ∀ R : Ending → World → Prop,
    (∀ x w' fz', Below w.heap.size w w' → (∀ b, fz b → fz' b) → (∀ b, fz' b → fz b ∨ (w.heap.size ≤ b ∧ b < w'.heap.size)) → ResOk w' w.heap.size fz' r x → R (.returned x) w') → Calls P f vs w R

structure SR (n : Nat) (w : World) (c : Ctx) (st : St) (a : Act) : Prop where
  defers : a.defers = []
  size : a.tmps.size = n
  val : ∀ i, VR w c (st i) (a.tmps.getD i Go.undef)

theorem SR.mono {n : Nat} {w w' : World} {c c' : Ctx} {st : St} {a : Act} (h : SR n w c st a) (e : Ext w c w' c') : SR n w' c' st a := ⟨h.defers, h.size, fun i => (h.val i).mono e⟩
theorem SR.put {n : Nat} {w : World} {c : Ctx} {st : St} {a : Act} (h : SR n w c st a) {d : Option Nat} (hd : ∀ t, d = some t → t < n) {v : AV} {x : Value} (hv : VR w c v x) : SR n w c (updO st d v) (a.put d x) := by
  cases d with
  | none => exact h
  | some d =>
    refine ⟨h.defers, by simp [Act.put, h.size], fun i => ?_⟩
    simp only [updO, upd, Act.put]
    rw [Array.getD_eq_getD_getElem?, Array.getElem?_setIfInBounds]
    by_cases hi : i = d
    · subst hi
      rw [if_pos rfl, if_pos rfl, if_pos (by rw [h.size]; exact hd i rfl)]
      exact hv
    · rw [if_neg hi, if_neg (Ne.symm hi), ← Array.getD_eq_getD_getElem?]
      exact h.val i
theorem SR.ev {n : Nat} {w : World} {c : Ctx} {st : St} {a : Act} (h : SR n w c st a) (x : Operand) : VR w c (Am.ev st x) (a.eval x) := by
  cases x with
  | tmp t => exact h.val t
  | const v =>
    simp only [Am.ev, avk, Act.eval]
    split
    · rename_i hc; exact avc_ok hc
    · exact .undef _
  | global g => exact .undef _
  | func f => exact .fn f [] #[] rfl (by simp)

/-- What one call may do. -/
def OutOk (P : Program) (call : FuncId → List AV → Hp → Option (AV × Hp)) : Prop := ∀ g args h r h', call g args h = some (r, h') → CallOk P g args h r h'

theorem next_value {o : Oper} {a : Act} {K : Act → World → Prop} {Q : Exit → Act → World → Prop} {w w' : World} {x : Value} (hr : (execOp a.eval o).run P w = .ok (.value x) w') (h : K (a.put o.dst x) w') : o.wp P a w K Q := by
  unfold Oper.wp; rw [hr]; exact h
theorem next_skip {o : Oper} {a : Act} {K : Act → World → Prop} {Q : Exit → Act → World → Prop} {w w' : World} (hr : (execOp a.eval o).run P w = .ok .skip w') (h : K (a.put o.dst Go.undef) w') : o.wp P a w K Q := by
  unfold Oper.wp; rw [hr]; exact h

theorem stepK_ok' {call : FuncId → List AV → Hp → Option (AV × Hp)} (hc : OutOk P call) {ops : Array Oper} {lim : Option Nat} {o : Oper} {st : St} {h h' : Hp} {v : AV} (hs : stepK P dp call ops lim o st h = some (v, h')) {n : Nat} (hn : ∀ t, o.dst = some t → t < n)
    {w : World} {c : Ctx} {a : Act} (H : HR w c h) (S : SR n w c st a) {K : Act → World → Prop} {Q : Exit → Act → World → Prop} (hK : ∀ w' c' a', Ext w c w' c' → HR w' c' h' → SR n w' c' (updO st o.dst v) a' → (∃ x, a' = a.put o.dst x) → K a' w') : o.wp P a w K Q := by
  have hρ := S.ev
  unfold stepK at hs
  split at hs
  · rename_i u hu
    cases hs
    obtain ⟨x, h1, h2⟩ := opPure_ok (P := P) hρ hu
    exact next_value h1 (hK _ _ _ (Ext.refl _ _) H (S.put hn h2) ⟨_, rfl⟩)
  · split at hs
    · rename_i u hu
      cases hs
      obtain ⟨x, h1, h2⟩ := opRead_ok (P := P) H hρ hu
      exact next_value h1 (hK _ _ _ (Ext.refl _ _) H (S.put hn h2) ⟨_, rfl⟩)
    · split at hs
      · rename_i r hr
        cases hs
        obtain ⟨x, w', c', h1, h2, h3, h4⟩ := opNew_ok (P := P) H hρ hr
        exact next_value h1 (hK _ _ _ h2 h3 ((S.mono h2).put hn h4) ⟨_, rfl⟩)
      · split at hs
        · rename_i r hr
          cases hs
          obtain ⟨nx, w', c', h1, h2, h3, h4⟩ := opWrite_ok (P := P) H hρ hr
          rcases h4 with ⟨x, rfl, h4⟩ | ⟨rfl, rfl⟩
          · exact next_value h1 (hK _ _ _ h2 h3 ((S.mono h2).put hn h4) ⟨_, rfl⟩)
          · exact next_skip h1 (hK _ _ _ h2 h3 ((S.mono h2).put hn .skp) ⟨_, rfl⟩)
        · split at hs
          · rename_i f args ts hop
            split at hs
            · rename_i g caps hf
              obtain ⟨⟨fn, e1, e2, e3⟩, hcall⟩ := hc _ _ _ _ _ hs
              have hF := hρ f
              rw [hf] at hF
              generalize hfv : a.eval f = F at hF
              cases hF with
              | fn _ _ vs hl hv =>
                have hargs : ArgsR w c (args.toList.map (ev st) ++ caps) (#[] ++ args.map a.eval ++ vs) := by
                  refine ⟨by simp [hl], fun j u hj => ?_⟩
                  rw [Array.getD_eq_getD_getElem?]
                  by_cases hlt : j < args.size
                  · rw [List.getElem?_append_left (by simpa using hlt)] at hj
                    rw [Array.getElem?_append_left (by simpa using hlt)]
                    simp only [List.getElem?_map, Option.map_eq_some_iff] at hj
                    obtain ⟨y, hy, rfl⟩ := hj
                    have hy' : args[j]? = some y := by simpa using hy
                    simp only [Array.empty_append, Array.getElem?_map, hy', Option.map_some, Option.getD_some]
                    exact hρ y
                  · rw [List.getElem?_append_right (by simpa using hlt)] at hj
                    rw [Array.getElem?_append_right (by simpa using hlt)]
                    have := hv _ u hj
                    rw [Array.getD_eq_getD_getElem?] at this
                    simpa using this
                have hrun : (execOp a.eval o).run P w = .ok (.enter g (#[] ++ args.map a.eval ++ vs)) w := by
                  obtain ⟨body, hb⟩ := Option.isSome_iff_exists.1 e2
                  simp only [execOp, hop, resolve, hfv, Deferred.ofValue, Sem.run_bind, Sem.run_pure, Result.andThen_ok, invoke, callFunc, run_program, e1, e3, Bool.false_eq_true, if_false, hb, Option.isNone_some]
                unfold Oper.wp
                rw [hrun]
                exact hcall w c _ H hargs _ fun x w' c' E H' V => hK w' c' _ E H' ((S.mono E).put hn V) ⟨_, rfl⟩
            · cases hs
          · cases hs

theorem stepK_ok {call : FuncId → List AV → Hp → Option (AV × Hp)} (hc : OutOk P call) {ops : Array Oper} {lim : Option Nat} {o : Oper} {st : St} {h h' : Hp} {v : AV} (hs : stepK P dp call ops lim o st h = some (v, h')) {n : Nat} (hn : ∀ t, o.dst = some t → t < n)
    {w : World} {c : Ctx} {a : Act} (H : HR w c h) (S : SR n w c st a) {K : Act → World → Prop} {Q : Exit → Act → World → Prop} (hK : ∀ w' c' a', Ext w c w' c' → HR w' c' h' → SR n w' c' (updO st o.dst v) a' → K a' w') : o.wp P a w K Q :=
  stepK_ok' hc hs hn H S fun w' c' a' E H' S' _ => hK w' c' a' E H' S'

theorem yielded_ok {ops : Array Oper} {j d : Nat} (hd : (ops[j]?).bind (·.dst) = some d) {n : Nat} {w : World} {c : Ctx} {st : St} {a : Act} (S : SR n w c st a) :
    (∀ b, st d = .bool b → d < n → yielded ops a.tmps j = some b) ∧ (st d = .skp → yielded ops a.tmps j = none) := by
  have hv := S.val d
  constructor
  · intro b hb hlt
    rw [hb] at hv
    have e := hv.bool_inv
    have hs : d < a.tmps.size := by rw [S.size]; exact hlt
    have e2 : a.tmps[d]? = some (.bool b) := by
      rw [Array.getD_eq_getD_getElem?, Array.getElem?_eq_getElem hs] at e
      rw [Array.getElem?_eq_getElem hs]
      simpa using e
    simp [yielded, hd, e2]
  · intro hb
    rw [hb] at hv
    have e : a.tmps.getD d Go.undef = Go.undef := by
      generalize a.tmps.getD d Go.undef = x at hv
      cases hv; rfl
    unfold yielded
    rw [hd]
    simp only [Option.bind_some]
    cases ht : a.tmps[d]? with
    | none => rfl
    | some x =>
      rw [Array.getD_eq_getD_getElem?, ht] at e
      simp only [Option.getD_some] at e
      subst e
      rfl

theorem runL_ok {call : FuncId → List AV → Hp → Option (AV × Hp)} (hc : OutOk P call) {ops : Array Oper} {lim : Option Nat} {n : Nat} (hn : ∀ (i : Nat) o, ops[i]? = some o → ∀ t, o.dst = some t → t < n) : ∀ (l : List Nat) (st : St) (h : Hp) {st' : St} {h' : Hp}, runL (stepO P dp call ops lim) ops l st h = some (st', h') →
    ∀ {w : World} {c : Ctx} {a : Act} (H : HR w c h) (S : SR n w c st a) {Q : Exit → Act → World → Prop}, (∀ w' c' a', Ext w c w' c' → HR w' c' h' → SR n w' c' st' a' → Q .normal a' w') → wpOps P ops Q l a w := by
  intro l
  induction l with
  | nil =>
    intro st h st' h' hr w c a H S Q hQ
    simp only [runL, Option.some.injEq, Prod.mk.injEq] at hr
    obtain ⟨rfl, rfl⟩ := hr
    exact hQ w c a (Ext.refl _ _) H S
  | cons i l ih =>
    intro st h st' h' hr w c a H S Q hQ
    simp only [runL] at hr
    simp only [wpOps]
    cases ho : ops[i]? with
    | none => rw [ho] at hr; exact ih st h hr H S hQ
    | some o =>
      rw [ho] at hr
      obtain ⟨⟨st1, h1⟩, e1, hr⟩ := Option.bind_eq_some_iff.1 hr
      have hdst := hn i o ho
      have run1 : ∀ {v : AV} {h1 : Hp}, stepK P dp call ops lim o st h = some (v, h1) → runL (stepO P dp call ops lim) ops l (updO st o.dst v) h1 = some (st', h') → o.wp P a w (wpOps P ops Q l) Q := by
        intro v h1 hk hr
        exact stepK_ok hc hk hdst H S fun w' c' a' E H' S' => ih _ _ hr H' S' fun w2 c2 a2 E2 H2 S2 => hQ w2 c2 a2 (E.trans E2) H2 S2
      have skip1 : runL (stepO P dp call ops lim) ops l (updO st o.dst .skp) h = some (st', h') → wpOps P ops Q l (a.put o.dst Go.undef) w := by
        intro hr
        exact ih _ _ hr H (S.put hdst .skp) hQ
      rw [stepO_act] at e1
      obtain ⟨⟨v, h2⟩, ha, e⟩ := Option.map_eq_some_iff.1 e1
      cases e
      unfold act at ha
      cases hg : o.guard with
      | none =>
        rw [hg] at ha
        have hw : Region.wanted o (yielded ops a.tmps) = true := by simp [Region.wanted, hg]
        dsimp only
        rw [if_pos hw]
        exact .inl (run1 ha hr)
      | some g =>
        obtain ⟨j, w0⟩ := g
        rw [hg] at ha
        dsimp only at ha ⊢
        cases hd : (ops[j]?).bind (·.dst) with
        | none => rw [hd] at ha; cases ha
        | some d =>
          rw [hd] at ha
          dsimp only at ha
          have hdn : d < n := by
            obtain ⟨oj, hoj, hdj⟩ := Option.bind_eq_some_iff.1 hd
            exact hn j oj hoj d hdj
          obtain ⟨y1, y2⟩ := yielded_ok hd S
          cases hst : st d <;> rw [hst] at ha <;> (try (cases ha; done))
          case bool b =>
            have hy := y1 b hst hdn
            dsimp only at ha
            by_cases hb : b = w0
            · rw [if_pos hb] at ha
              have hw : Region.wanted o (yielded ops a.tmps) = true := by simp [Region.wanted, hg, hy, hb]
              rw [if_pos hw]
              exact .inl (run1 ha hr)
            · rw [if_neg hb] at ha
              cases ha
              have hw : Region.wanted o (yielded ops a.tmps) = false := by simp [Region.wanted, hg, hy, hb]
              rw [hw]
              simp only [Bool.false_eq_true, if_false]
              exact skip1 hr
          case skp =>
            cases ha
            have hy := y2 hst
            have hw : Region.wanted o (yielded ops a.tmps) = false := by simp [Region.wanted, hg, hy]
            rw [hw]
            simp only [Bool.false_eq_true, if_false]
            exact skip1 hr

end
end Go.Am

