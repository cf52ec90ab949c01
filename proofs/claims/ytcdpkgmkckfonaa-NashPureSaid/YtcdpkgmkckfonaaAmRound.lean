/-
  The second machine inside a round of a range over a function: what it computes, the model does, in such a frame too.
-/
import Derived.Test.YtcdpkgmkckfonaaAmMap
import Derived.RangeFuncNested
import Derived.RangeFuncBound
import Derived.RangeFuncCalls
import Derived.RangeFuncLeaves
import Derived.Shelf.Abstract
set_option linter.unusedVariables false
set_option linter.unusedSimpArgs false
namespace Go.Am
open Go Go.RowKit
variable {dp : Bool} {P : Program} {cfg : Cfg}

/-- Every function, any depth; in a round, or not. -/
abbrev rF (ro : Option Nat) : Fence := { Fence.wide with round := ro }
theorem toIn {ro : Option Nat} {n : Nat} {f : FuncId} {args : Array Value} {w : World} {R : Ending → World → Prop} (h : Calls P f args w R) : CallsIn (rF ro) n P f args w R := (callsIn_wide (n := n)).2 h

theorem stepK_defer {call : FuncId → List AV → Hp → Option (AV × Hp)} {ops : Array Oper} {lim : Option Nat} {o : Oper} {st : St} {h : Hp} {r : AV × Hp} (hs : stepK P dp call ops lim o st h = some r) : ∀ c, o.op ≠ .defer c := by
  intro c hc
  simp [stepK, hc, opPure, opRead, opNew, opWrite] at hs
theorem next_valueIn {ro : Option Nat} {m : Nat} {o : Oper} {a : Act} {K : Act → World → Prop} {Q : Exit → Act → World → Prop} {w w' : World} {x : Value} (hd : ∀ c, o.op ≠ .defer c) (hr : (execOp a.eval o).run P w = .ok (.value x) w') (h : K (a.put o.dst x) w') : o.wpIn (rF ro) m P a w K Q := by
  refine ⟨fun _ _ => trivial, ?_⟩
  rw [Oper.semAt_eq _ _ _ hd, hr]; exact h
theorem next_skipIn {ro : Option Nat} {m : Nat} {o : Oper} {a : Act} {K : Act → World → Prop} {Q : Exit → Act → World → Prop} {w w' : World} (hd : ∀ c, o.op ≠ .defer c) (hr : (execOp a.eval o).run P w = .ok .skip w') (h : K (a.put o.dst Go.undef) w') : o.wpIn (rF ro) m P a w K Q := by
  refine ⟨fun _ _ => trivial, ?_⟩
  rw [Oper.semAt_eq _ _ _ hd, hr]; exact h

/-- A register that is left alone. -/
def Frz (t : Nat) (a a' : Act) : Prop := a'.tmps[t]? = a.tmps[t]?
theorem Frz.refl (t : Nat) (a : Act) : Frz t a a := rfl
theorem Frz.trans {t : Nat} {a b c : Act} (h : Frz t a b) (k : Frz t b c) : Frz t a c := Eq.trans k h
theorem Frz.put {t : Nat} {a : Act} {d : Option Nat} (h : d ≠ some t) (v : Value) : Frz t a (a.put d v) := by
  cases d with
  | none => rfl
  | some d =>
    have : d ≠ t := fun e => h (by rw [e])
    simp [Frz, Act.put, Array.getElem?_setIfInBounds, this]
theorem stepK_in {t : Nat} {ro : Option Nat} {m : Nat} {call : FuncId → List AV → Hp → Option (AV × Hp)} (hc : OutOk P call) {ops : Array Oper} {lim : Option Nat} {o : Oper} {st : St} {h h' : Hp} {v : AV} (hs : stepK P dp call ops lim o st h = some (v, h')) {n : Nat} (hn : ∀ t, o.dst = some t → t < n) (ht : o.dst ≠ some t)
    {w : World} {c : Ctx} {a : Act} (H : HR w c h) (S : SR n w c st a) {K : Act → World → Prop} {Q : Exit → Act → World → Prop} (hK : ∀ w' c' a', Ext w c w' c' → HR w' c' h' → SR n w' c' (updO st o.dst v) a' → Frz t a a' → K a' w') : o.wpIn (rF ro) m P a w K Q := by
  have hρ := S.ev
  have hd := stepK_defer hs
  unfold stepK at hs
  split at hs
  · rename_i u hu
    cases hs
    obtain ⟨x, h1, h2⟩ := opPure_ok (P := P) hρ hu
    exact next_valueIn hd h1 (hK _ _ _ (Ext.refl _ _) H (S.put hn h2) (.put ht _))
  · split at hs
    · rename_i u hu
      cases hs
      obtain ⟨x, h1, h2⟩ := opRead_ok (P := P) H hρ hu
      exact next_valueIn hd h1 (hK _ _ _ (Ext.refl _ _) H (S.put hn h2) (.put ht _))
    · split at hs
      · rename_i r hr
        cases hs
        obtain ⟨x, w', c', h1, h2, h3, h4⟩ := opNew_ok (P := P) H hρ hr
        exact next_valueIn hd h1 (hK _ _ _ h2 h3 ((S.mono h2).put hn h4) (.put ht _))
      · split at hs
        · rename_i r hr
          cases hs
          obtain ⟨nx, w', c', h1, h2, h3, h4⟩ := opWrite_ok (P := P) H hρ hr
          rcases h4 with ⟨x, rfl, h4⟩ | ⟨rfl, rfl⟩
          · exact next_valueIn hd h1 (hK _ _ _ h2 h3 ((S.mono h2).put hn h4) (.put ht _))
          · exact next_skipIn hd h1 (hK _ _ _ h2 h3 ((S.mono h2).put hn .skp) (.put ht _))
        · split at hs
          · rename_i f args ts hop
            split at hs
            · rename_i g caps hf
              obtain ⟨⟨fn, e1, e2, e3⟩, hcall⟩ := hc _ _ _ _ _ hs
              have hF := hρ f
              rw [hf] at hF
              generalize hfv : a.eval f = F at hF
              cases hF with
              | fn _ _ vs hl hv =>
                have hargs : ArgsR w c (args.toList.map (ev st) ++ caps) (#[] ++ args.map a.eval ++ vs) := by
                  refine ⟨by simp [hl], fun j u hj => ?_⟩
                  rw [Array.getD_eq_getD_getElem?]
                  by_cases hlt : j < args.size
                  · rw [List.getElem?_append_left (by simpa using hlt)] at hj
                    rw [Array.getElem?_append_left (by simpa using hlt)]
                    simp only [List.getElem?_map, Option.map_eq_some_iff] at hj
                    obtain ⟨y, hy, rfl⟩ := hj
                    have hy' : args[j]? = some y := by simpa using hy
                    simp only [Array.empty_append, Array.getElem?_map, hy', Option.map_some, Option.getD_some]
                    exact hρ y
                  · rw [List.getElem?_append_right (by simpa using hlt)] at hj
                    rw [Array.getElem?_append_right (by simpa using hlt)]
                    have := hv _ u hj
                    rw [Array.getD_eq_getD_getElem?] at this
                    simpa using this
                have hrun : (execOp a.eval o).run P w = .ok (.enter g (#[] ++ args.map a.eval ++ vs)) w := by
                  obtain ⟨body, hb⟩ := Option.isSome_iff_exists.1 e2
                  simp only [execOp, hop, resolve, hfv, Deferred.ofValue, Sem.run_bind, Sem.run_pure, Result.andThen_ok, invoke, callFunc, run_program, e1, e3, Bool.false_eq_true, if_false, hb, Option.isNone_some]
                refine ⟨fun _ _ => trivial, ?_⟩
                rw [Oper.semAt_eq _ _ _ hd, hrun]
                rw [Oper.uponIn_enter]
                refine ⟨fun h => (by cases h), toIn ?_⟩
                exact hcall w c _ H hargs _ fun x w' c' E H' V => hK w' c' _ E H' ((S.mono E).put hn V) (.put ht _)
            · cases hs
          · cases hs

theorem runL_in {t : Nat} {ro : Option Nat} {m : Nat} {call : FuncId → List AV → Hp → Option (AV × Hp)} (hc : OutOk P call) {ops : Array Oper} {lim : Option Nat} {n : Nat} (hn : ∀ (i : Nat) o, ops[i]? = some o → ∀ t, o.dst = some t → t < n) (hnt : ∀ (i : Nat) o, ops[i]? = some o → o.dst ≠ some t) : ∀ (l : List Nat) (st : St) (h : Hp) {st' : St} {h' : Hp}, runL (stepO P dp call ops lim) ops l st h = some (st', h') →
    ∀ {w : World} {c : Ctx} {a : Act} (H : HR w c h) (S : SR n w c st a) {Q : Exit → Act → World → Prop}, (∀ w' c' a', Ext w c w' c' → HR w' c' h' → SR n w' c' st' a' → Frz t a a' → Q .normal a' w') → wpOpsIn (rF ro) m P ops Q l a w := by
  intro l
  induction l with
  | nil =>
    intro st h st' h' hr w c a H S Q hQ
    simp only [runL, Option.some.injEq, Prod.mk.injEq] at hr
    obtain ⟨rfl, rfl⟩ := hr
    exact hQ w c a (Ext.refl _ _) H S (.refl _ _)
  | cons i l ih =>
    intro st h st' h' hr w c a H S Q hQ
    simp only [runL] at hr
    simp only [wpOpsIn]
    cases ho : ops[i]? with
    | none => rw [ho] at hr; exact ih st h hr H S hQ
    | some o =>
      rw [ho] at hr
      obtain ⟨⟨st1, h1⟩, e1, hr⟩ := Option.bind_eq_some_iff.1 hr
      have hdst := hn i o ho
      have htd := hnt i o ho
      have run1 : ∀ {v : AV} {h1 : Hp}, stepK P dp call ops lim o st h = some (v, h1) → runL (stepO P dp call ops lim) ops l (updO st o.dst v) h1 = some (st', h') → o.wpIn (rF ro) m P a w (wpOpsIn (rF ro) m P ops Q l) Q := by
        intro v h1 hk hr
        exact stepK_in hc hk hdst htd H S fun w' c' a' E H' S' F => ih _ _ hr H' S' fun w2 c2 a2 E2 H2 S2 F2 => hQ w2 c2 a2 (E.trans E2) H2 S2 (F.trans F2)
      have skip1 : runL (stepO P dp call ops lim) ops l (updO st o.dst .skp) h = some (st', h') → wpOpsIn (rF ro) m P ops Q l (a.put o.dst Go.undef) w := by
        intro hr
        exact ih _ _ hr H (S.put hdst .skp) fun w2 c2 a2 E2 H2 S2 F2 => hQ w2 c2 a2 E2 H2 S2 ((Frz.put htd _).trans F2)
      rw [stepO_act] at e1
      obtain ⟨⟨v, h2⟩, ha, e⟩ := Option.map_eq_some_iff.1 e1
      cases e
      unfold act at ha
      cases hg : o.guard with
      | none =>
        rw [hg] at ha
        have hw : Region.wanted o (yielded ops a.tmps) = true := by simp [Region.wanted, hg]
        dsimp only
        rw [if_pos hw]
        exact run1 ha hr
      | some g =>
        obtain ⟨j, w0⟩ := g
        rw [hg] at ha
        dsimp only at ha ⊢
        cases hd : (ops[j]?).bind (·.dst) with
        | none => rw [hd] at ha; cases ha
        | some d =>
          rw [hd] at ha
          dsimp only at ha
          have hdn : d < n := by
            obtain ⟨oj, hoj, hdj⟩ := Option.bind_eq_some_iff.1 hd
            exact hn j oj hoj d hdj
          obtain ⟨y1, y2⟩ := yielded_ok hd S
          cases hst : st d <;> rw [hst] at ha <;> (try (cases ha; done))
          case bool b =>
            have hy := y1 b hst hdn
            dsimp only at ha
            by_cases hb : b = w0
            · rw [if_pos hb] at ha
              have hw : Region.wanted o (yielded ops a.tmps) = true := by simp [Region.wanted, hg, hy, hb]
              rw [if_pos hw]
              exact run1 ha hr
            · rw [if_neg hb] at ha
              cases ha
              have hw : Region.wanted o (yielded ops a.tmps) = false := by simp [Region.wanted, hg, hy, hb]
              rw [hw]
              simp only [Bool.false_eq_true, if_false]
              exact ⟨fun _ _ => trivial, skip1 hr⟩
          case skp =>
            cases ha
            have hy := y2 hst
            have hw : Region.wanted o (yielded ops a.tmps) = false := by simp [Region.wanted, hg, hy]
            rw [hw]
            simp only [Bool.false_eq_true, if_false]
            exact ⟨fun _ _ => trivial, skip1 hr⟩

theorem region_in {t : Nat} {ro : Option Nat} {m : Nat} {call : FuncId → List AV → Hp → Option (AV × Hp)} (hc : OutOk P call) (hcn : CallNew cfg.shared call) (hcm : CallMono call) (hcc : CallCalm cfg call) {id n : Nat} {ops : Array Oper} {draw : Bool} (hok : codeOk cfg n (.region id ops draw) = true) (hlt : cfg.late id ops.size = []) (hcalm : (ops.toList.all fun o => decide (o.dst ≠ some t)) = true) {st st' : St} {h h' : Hp}
    (hr : (if draw && cfg.strict id ops.size then runOpsS P cfg call ops (okIds h.nx (wrIds ops st ++ wrX (cfg.wr id ops.size) st)) ops.toList st h else runOps P dp call ops (if draw then some h.nx else none) ops.toList st h) = some (st', h')) {w : World} {c : Ctx} {a : Act} (H : HR w c h) (S : SR n w c st a) {Q : Exit → Act → World → Prop} (hQ : ∀ w' c' a', Ext w c w' c' → HR w' c' h' → SR n w' c' st' a' → Frz t a a' → Q .normal a' w') :
    (Code.region id ops draw).wpIn (rF ro) m P Q a w := by
  simp only [codeOk, Bool.and_eq_true, List.all_eq_true] at hok
  obtain ⟨k1, k2⟩ := hok
  have hn : ∀ (i : Nat) o, ops[i]? = some o → ∀ t, o.dst = some t → t < n := by
    intro i o ho t ht
    have := k1 o (by have := Array.mem_of_getElem? ho; simpa using this)
    simp only [tmpsOk, ht] at this
    exact of_decide_eq_true this
  have hnt : ∀ (i : Nat) o, ops[i]? = some o → o.dst ≠ some t := fun i o ho => of_decide_eq_true (List.all_eq_true.1 hcalm o (by have := Array.mem_of_getElem? ho; simpa using this))
  cases draw with
  | false =>
    simp only [Bool.false_eq_true, if_false, Bool.false_and] at hr
    rw [runOps_runG, ← runL_text] at hr
    exact wpIn_region (runL_in hc hn hnt _ _ _ hr H S hQ)
  | true =>
    simp only [Bool.true_and] at hr
    simp only [Bool.not_true, Bool.false_or] at k2
    obtain ⟨E, H'⟩ := H.drew
    cases hst : cfg.strict id ops.size with
    | false =>
      rw [hst] at hr k2
      simp only [Bool.false_eq_true, if_false, if_true] at hr k2
      rw [runOps_runG] at hr
      refine wpIn_region_draw fun t => ?_
      have hd := draw_run (swapperO hcn hcm) k2 (Nat.le_refl _) hr (P.follows .mixedOrders) t
      exact runL_in hc hn hnt _ _ _ hd H' (S.mono E) fun w' c' a' E' => hQ w' c' a' (E.trans E')
    | true =>
      rw [hst] at hr k2
      simp only [if_true, Bool.and_eq_true] at hr k2
      rw [hlt] at k2
      have k3 : drawG (pairS cfg ops) ops = true := by
        have e : (fun i j a b => pairS cfg ops i j a b || ([] : List Nat).contains j) = pairS cfg ops := by
          funext i j a b; simp
        rw [← e]; exact k2.1
      rw [runOpsS_runG] at hr
      refine wpIn_region_draw fun t => ?_
      have hd := draw_run (swapperS (lim := h.nx) hcn hcc hcm (fun id hid => by simp only [okIds, Bool.and_eq_true, decide_eq_true_eq] at hid; exact hid.1)) k3 (Nat.le_refl _) hr (P.follows .mixedOrders) t
      exact runL_in hc hn hnt _ _ _ (runL_S _ _ _ hd) H' (S.mono E) fun w' c' a' E' => hQ w' c' a' (E.trans E')

def RunIn (t : Nat) (ro : Option Nat) (m : Nat) (P : Program) (n : Nat) (c : Code) (st : St) (h : Hp) (e : Exit) (st' : St) (h' : Hp) : Prop :=
  ∀ {w : World} {ctx : Ctx} {a : Act} (H : HR w ctx h) (S : SR n w ctx st a) {Q : Exit → Act → World → Prop}, (∀ w' c' a', Ext w ctx w' c' → HR w' c' h' → SR n w' c' st' a' → Frz t a a' → Q e a' w') → c.wpIn (rF ro) m P Q a w
def LoopIn (t : Nat) (ro : Option Nat) (m : Nat) (P : Program) (n : Nat) (b : Code) (st : St) (h : Hp) (e : Exit) (st' : St) (h' : Hp) : Prop :=
  ∀ {w : World} {ctx : Ctx} {a : Act} (H : HR w ctx h) (S : SR n w ctx st a) {Q : Exit → Act → World → Prop}, (∀ w' c' a', Ext w ctx w' c' → HR w' c' h' → SR n w' c' st' a' → Frz t a a' → Q e a' w') →
    ∀ (fb : Frame) (kk : List Item) (cs : List Frame), fb.roundOf = (rF ro).round → ∃ e a' w', Q e a' w' ∧ ArrivesIn (Machine.fenced P (rF ro)) P (lone (fb.atR a (.code b :: .inLoop b :: kk)) cs w) fb kk cs e a' w'
/-- No part of the code is a scope, or writes a register. -/
def calm (t : Nat) : Code → Bool
  | .scope _ => false
  | .seq a b | .cond _ a b => calm t a && calm t b
  | .block _ b | .loop b => calm t b
  | .region _ ops _ => ops.toList.all fun o => decide (o.dst ≠ some t)
  | _ => true
theorem fenced_any (ro : Option Nat) (mc : Machine) : mc.fenced P (rF ro) := fenced_wide P mc

theorem sound_in (hext : ExtOk P cfg) (hlt : ∀ id n, cfg.late id n = []) (t : Nat) (ro : Option Nat) (m k : Nat) :
    (∀ n c st h x st' h', calm t c = true → codeOk cfg n c = true → run P cfg k c st h = some (x, st', h') → ExitOk x ∧ RunIn t ro m P n c st h x st' h') ∧
    (∀ n b st h x st' h', calm t b = true → codeOk cfg n b = true → run P cfg k (.loop b) st h = some (x, st', h') → ExitOk x ∧ LoopIn t ro m P n b st h x st' h') := by
  induction k with
  | zero =>
    refine ⟨?_, ?_⟩
    · intro n c st h x st' h' _ _ hr; simp [run] at hr
    · intro n b st h x st' h' _ _ hr; simp [run] at hr
  | succ k ih =>
    obtain ⟨i1, i5⟩ := ih
    obtain ⟨_, _, _, i4, _⟩ := sound hext k
    obtain ⟨_, _, n3, n4⟩ := all_nx (P := P) (cfg := cfg) k
    have hloop : ∀ n b st h x st' h', calm t b = true → codeOk cfg n b = true → run P cfg (k + 1) (.loop b) st h = some (x, st', h') → ExitOk x ∧ LoopIn t ro m P n b st h x st' h' := by
      intro n b st h x st' h' hsc hok hr
      simp only [run] at hr
      obtain ⟨⟨x1, s1, h1⟩, e1, hr⟩ := Option.bind_eq_some_iff.1 hr
      obtain ⟨o1, r1⟩ := i1 n b _ _ _ _ _ hsc hok e1
      split at hr
      · rename_i heq
        cases heq
        obtain ⟨o2, r2⟩ := i5 n b _ _ _ _ _ hsc hok hr
        refine ⟨o2, fun {w ctx a} H S Q hQ fb kk cs hro => ?_⟩
        obtain ⟨e, a1, w1, hq, harr⟩ := r1 H S (Q := fun e a' w' => e = .normal ∧ ∃ e2 a2 w2, Q e2 a2 w2 ∧ ArrivesIn (Machine.fenced P (rF ro)) P (lone (fb.atR a' (.code b :: .inLoop b :: kk)) cs w') fb kk cs e2 a2 w2)
          (fun w' c' a' E H' S' F => ⟨rfl, r2 H' S' (fun w2 c2 a2 E2 H2 S2 F2 => hQ w2 c2 a2 (E.trans E2) H2 S2 (F.trans F2)) fb kk cs hro⟩) fb (.inLoop b :: kk) cs hro trivial (room_wide _)
        obtain ⟨rfl, e2, a2, w2, hq2, harr2⟩ := hq
        exact ⟨e2, a2, w2, hq2, .of_steps (StepsIn.trans harr (.one (fenced_any ro _) stepR_inLoop)) harr2⟩
      · rename_i hne
        cases hr
        refine ⟨o1, fun {w ctx a} H S Q hQ fb kk cs hro => ?_⟩
        obtain ⟨e, a1, w1, hq, harr⟩ := r1 H S (Q := fun e a w => e ≠ .normal ∧ Q e a w) (fun w' c' a' E H' S' F => ⟨fun he => by subst he; exact hne _ _ rfl, hQ w' c' a' E H' S' F⟩) fb (.inLoop b :: kk) cs hro trivial (room_wide _)
        exact ⟨e, a1, w1, hq.2, .pass (x := .inLoop b) rfl (fun _ _ => .inl hq.1) harr⟩
    refine ⟨?_, hloop⟩
    intro n c st h x st' h' hsc hok hr
    cases c <;> simp only [run] at hr <;> (try (cases hr; done))
    case skip => cases hr; exact ⟨trivial, fun H S Q hQ => wpIn_skip (hQ _ _ _ (Ext.refl _ _) H S (.refl _ _))⟩
    case label l => cases hr; exact ⟨trivial, fun H S Q hQ => wpIn_label (hQ _ _ _ (Ext.refl _ _) H S (.refl _ _))⟩
    case exit id => cases hr; exact ⟨trivial, fun H S Q hQ => wpIn_exit (hQ _ _ _ (Ext.refl _ _) H S (.refl _ _))⟩
    case ret => cases hr; exact ⟨trivial, fun H S Q hQ => wpIn_ret (hQ _ _ _ (Ext.refl _ _) H S (.refl _ _))⟩
    case region id ops draw =>
      obtain ⟨⟨s1, h1⟩, e1, e⟩ := Option.map_eq_some_iff.1 hr
      cases e
      exact ⟨trivial, fun H S Q hQ => region_in i4 n4 n3 (callO_calm (fun f args r he => (hext f args r he).2) k) hok (hlt _ _) hsc e1 H S hQ⟩
    case seq a b =>
      simp only [codeOk, calm, Bool.and_eq_true] at hok hsc
      obtain ⟨⟨x1, s1, h1⟩, e1, hr⟩ := Option.bind_eq_some_iff.1 hr
      obtain ⟨o1, r1⟩ := i1 n a _ _ _ _ _ hsc.1 hok.1 e1
      split at hr
      · rename_i heq
        cases heq
        obtain ⟨o2, r2⟩ := i1 n b _ _ _ _ _ hsc.2 hok.2 hr
        refine ⟨o2, fun H S Q hQ => wpIn_seq (r1 H S fun w' c' a' E H' S' F => ?_)⟩
        exact r2 H' S' fun w2 c2 a2 E2 H2 S2 F2 => hQ w2 c2 a2 (E.trans E2) H2 S2 (F.trans F2)
      · rename_i hne
        cases hr
        refine ⟨o1, fun H S Q hQ => wpIn_seq (r1 H S fun w' c' a' E H' S' F => ?_)⟩
        have := hQ w' c' a' E H' S' F
        cases x <;> first | exact this | exact absurd rfl (hne _ _)
    case cond c a b =>
      simp only [codeOk, calm, Bool.and_eq_true] at hok hsc
      split at hr
      · rename_i t ht
        have hx : ∀ {w ctx} {act : Act}, SR n w ctx st act → act.eval c = .bool t := by
          intro w ctx act S
          have := S.ev c
          rw [ht] at this
          exact this.bool_inv
        cases t with
        | true =>
          obtain ⟨o1, r1⟩ := i1 n a _ _ _ _ _ hsc.1 hok.1 hr
          exact ⟨o1, fun H S Q hQ => wpIn_cond_true (hx S) (r1 H S hQ)⟩
        | false =>
          obtain ⟨o1, r1⟩ := i1 n b _ _ _ _ _ hsc.2 hok.2 hr
          exact ⟨o1, fun H S Q hQ => wpIn_cond_false (hx S) (r1 H S hQ)⟩
      · cases hr
    case block id b =>
      simp only [codeOk, calm] at hok hsc
      obtain ⟨⟨x1, s1, h1⟩, e1, e⟩ := Option.map_eq_some_iff.1 hr
      obtain ⟨o1, r1⟩ := i1 n b _ _ _ _ _ hsc hok e1
      split at e
      · rename_i j s2 h2 heq
        cases heq
        cases e
        refine ⟨by split <;> trivial, fun H S Q hQ => wpIn_block (r1 H S fun w' c' a' E H' S' F => ?_)⟩
        have := hQ w' c' a' E H' S' F
        simp only [Exit.inBlock]
        split
        · rename_i hj; rw [if_pos hj] at this; exact this
        · rename_i hj; rw [if_neg hj] at this; exact this
      · rename_i hne
        cases e
        refine ⟨o1, fun H S Q hQ => wpIn_block (r1 H S fun w' c' a' E H' S' F => ?_)⟩
        have := hQ w' c' a' E H' S' F
        cases x <;> first | exact this | exact absurd rfl (hne _ _ _)
    case loop b =>
      simp only [codeOk, calm] at hok hsc
      obtain ⟨o1, r1⟩ := hloop n b _ _ _ _ _ hsc hok (by simp only [run]; exact hr)
      refine ⟨o1, fun {w ctx a} H S Q hQ fb kk cs hro _ _ => ?_⟩
      obtain ⟨e, a1, w1, hq, harr⟩ := r1 H S hQ fb kk cs hro
      exact ⟨e, a1, w1, hq, .of_steps (.one (fenced_any ro _) stepR_loop) harr⟩
    case scope b => simp [calm] at hsc

end Go.Am

