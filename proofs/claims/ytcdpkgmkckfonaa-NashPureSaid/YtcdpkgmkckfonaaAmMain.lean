/-
  The second machine is sound: whole functions.
-/
import Derived.Test.YtcdpkgmkckfonaaAmLate
set_option linter.unusedVariables false
set_option linter.unusedSimpArgs false
namespace Go.Am
open Go Go.RowKit

section
variable {P : Program} {cfg : Cfg}

theorem runOps_nx {dp : Bool} {call : FuncId → List AV → Hp → Option (AV × Hp)} (hm : CallMono call) {ops : Array Oper} {lim : Option Nat} : ∀ (l : List Oper) (st : St) (h : Hp) {st' : St} {h' : Hp}, runOps P dp call ops lim l st h = some (st', h') → h.nx ≤ h'.nx := by
  intro l
  induction l with
  | nil => intro st h st' h' hr; simp only [runOps, Option.some.injEq, Prod.mk.injEq] at hr; obtain ⟨_, rfl⟩ := hr; exact Nat.le_refl _
  | cons o l ih =>
    intro st h st' h' hr
    simp only [runOps] at hr
    obtain ⟨⟨st1, h1⟩, e1, hr⟩ := Option.bind_eq_some_iff.1 hr
    exact Nat.le_trans (stepO_nx hm e1) (ih st1 h1 hr)

theorem all_nx (k : Nat) : (∀ c st h x st' h', run P cfg k c st h = some (x, st', h') → h.nx ≤ h'.nx) ∧ (∀ f args h v h', callS P cfg k f args h = some (v, h') → h.nx ≤ h'.nx) ∧ CallMono (callO P cfg k) ∧ CallNew cfg.shared (callO P cfg k) := by
  induction k with
  | zero =>
    refine ⟨?_, ?_, ?_, ?_⟩
    · intro c st h x st' h' hr; simp [run] at hr
    · intro f args h v h' hr; simp [callS] at hr
    · intro f args h v h' hr; simp [callO] at hr
    · intro f args h v h' l _ _ hr; simp [callO] at hr
  | succ k ih =>
    obtain ⟨i1, i2, i3, i4⟩ := ih
    refine ⟨?_, ?_, ?_, ?_⟩
    · intro c st h x st' h' hr
      cases c <;> simp only [run] at hr <;> (try (cases hr; done)) <;> (try (cases hr; exact Nat.le_refl _))
      case region id ops draw =>
        obtain ⟨⟨s1, h1⟩, e1, e⟩ := Option.map_eq_some_iff.1 hr
        cases e
        split at e1
        · exact runOpsS_nx i3 _ _ _ e1
        · exact runOps_nx i3 _ _ _ e1
      case seq a b =>
        obtain ⟨⟨x1, s1, h1⟩, e1, hr⟩ := Option.bind_eq_some_iff.1 hr
        have h2 := i1 _ _ _ _ _ _ e1
        split at hr
        · rename_i heq
          cases heq
          exact Nat.le_trans h2 (i1 _ _ _ _ _ _ hr)
        · cases hr; exact h2
      case cond c a b =>
        split at hr
        · exact i1 _ _ _ _ _ _ hr
        · cases hr
      case block id b =>
        obtain ⟨⟨x1, s1, h1⟩, e1, e⟩ := Option.map_eq_some_iff.1 hr
        have h2 := i1 _ _ _ _ _ _ e1
        split at e
        · rename_i heq; cases heq; cases e; exact h2
        · cases e; exact h2
      case loop b =>
        obtain ⟨⟨x1, s1, h1⟩, e1, hr⟩ := Option.bind_eq_some_iff.1 hr
        have h2 := i1 _ _ _ _ _ _ e1
        split at hr
        · rename_i heq
          cases heq
          exact Nat.le_trans h2 (i1 _ _ _ _ _ _ hr)
        · cases hr; exact h2
      case scope b => exact i1 _ _ _ _ _ _ hr
    · intro f args h v h' hr
      simp only [callS] at hr
      split at hr
      · cases hr
      · split at hr
        · cases hr
        · split at hr
          · split at hr
            · rename_i hrun
              obtain ⟨u, _, e⟩ := Option.map_eq_some_iff.1 hr
              cases e
              exact i1 _ _ _ _ _ _ hrun
            · rename_i hrun
              obtain ⟨u, _, e⟩ := Option.map_eq_some_iff.1 hr
              cases e
              exact i1 _ _ _ _ _ _ hrun
            · cases hr
          · cases hr
    · intro f args h v h' hr
      simp only [callO] at hr
      split at hr
      · exact i2 _ _ _ _ _ hr
      · obtain ⟨⟨as, h1⟩, e1, hr⟩ := Option.bind_eq_some_iff.1 hr
        obtain ⟨r, e2, hr⟩ := Option.bind_eq_some_iff.1 hr
        obtain ⟨_, n1⟩ := sealArgs_agree (lim := 0) _ e1
        split at hr
        · cases hr; exact Nat.le_refl _
        split at hr
        · simp only [Option.some.injEq] at hr
          have := (importR_agree (h := h) (lim := 0) (Nat.zero_le _) r).2
          rw [hr] at this
          exact this
        · simp only [Option.some.injEq] at hr
          have := (importR_agree (h := h1) (lim := 0) (Nat.zero_le _) r).2
          rw [hr] at this
          simp only at this
          omega
    · intro f args h v h' l hsh hl hr
      simp only [callO, hsh, Bool.false_eq_true, if_false] at hr
      obtain ⟨⟨as, h1⟩, e1, hr⟩ := Option.bind_eq_some_iff.1 hr
      obtain ⟨r, e2, hr⟩ := Option.bind_eq_some_iff.1 hr
      obtain ⟨a1, n1⟩ := sealArgs_agree (lim := l) _ e1
      split at hr
      · cases hr; exact ⟨Agree.refl _ _, Nat.le_refl _⟩
      split at hr
      · simp only [Option.some.injEq] at hr
        obtain ⟨a2, n2⟩ := importR_agree (h := h) (lim := l) hl r
        rw [hr] at a2 n2
        exact ⟨a2, n2⟩
      · simp only [Option.some.injEq] at hr
        obtain ⟨a2, n2⟩ := importR_agree (h := h1) (lim := l) (by omega) r
        rw [hr] at a2 n2
        simp only at a2 n2
        exact ⟨a1.trans a2, by omega⟩

theorem resA_ok {n : Nat} {w : World} {c : Ctx} {h : Hp} {st : St} {a : Act} (H : HR w c h) (S : SR n w c st a) {r : ResultVar} {v : AV} (hr : resA P h st r = some v) :
    ∃ x, (match r with | .tmp t => pure (a.tmps.getD t Go.undef) | .cell b t => do loadVar t (← asAddr (a.tmps.getD b Go.undef)) : Sem Value).run P w = .ok x w ∧ VR w c v x := by
  cases r with
  | tmp t => simp only [resA, Option.some.injEq] at hr; subst hr; exact ⟨_, rfl, S.val t⟩
  | cell b t =>
    simp only [resA] at hr
    have hb := S.val b
    split at hr
    · rename_i id off e
      rw [e] at hb
      obtain ⟨flat, hf, hr⟩ := Option.bind_eq_some_iff.1 hr
      obtain ⟨hid, ad, hA, hat⟩ := hb.ptr_inv
      simp only [rd, lims, if_true] at hf
      split at hf
      · rename_i fz row fl hbl
        simp only [if_true, Option.some.injEq] at hf
        subst hf
        rcases H.read hbl with ⟨_, rfl, _⟩ | ⟨bb, cs, et, hl, h4, h5, h6, h7, hrow⟩
        · simp only [loadA, partA] at hr
          split at hr
          · rename_i d n hd hn
            by_cases hg : aggD d = true
            · rw [if_pos hg] at hr
              split at hr
              · rename_i hle
                cases hr
                simp only [List.length_nil, Nat.le_zero_eq] at hle
                have hn0 : n = 0 := by omega
                subst hn0
                refine ⟨.agg #[], ?_, .agg _ _ (by simp) (by simp) (by simp)⟩
                simp [hA, asAddr, loadVar, run_isAgg hd, hg, run_size hn, loadCells, loadCellsFrom]
              · cases hr
            · rw [if_neg hg] at hr; simp at hr
          · cases hr
        · obtain ⟨x, h1, h2⟩ := hrow.load hr
          refine ⟨x, ?_, h2⟩
          rw [add_lit, Nat.zero_add] at h1
          simp [hA, hat bb row hl, asAddr, h1]
      · cases hf
    · cases hr

theorem resR_ok {n : Nat} {w : World} {c : Ctx} {h : Hp} {st : St} {a : Act} (H : HR w c h) (S : SR n w c st a) {fn : Func} {v : AV} (hr : resR P h st fn.results.toList = some v) : ∃ x, (results fn a.tmps).run P w = .ok x w ∧ VR w c v x := by
  simp only [resR] at hr
  obtain ⟨vs, hvs, rfl⟩ := Option.map_eq_some_iff.1 hr
  have key : ∀ (l : List ResultVar) (vs : List AV), resL P h st l = some vs → ∃ xs : List Value, (l.mapM (m := Sem) fun | .tmp t => pure (a.tmps.getD t Go.undef) | .cell b t => do loadVar t (← asAddr (a.tmps.getD b Go.undef))).run P w = .ok xs w ∧ xs.length = vs.length ∧ ∀ (j : Nat) (u : AV), vs[j]? = some u → VR w c u (xs[j]?.getD Go.undef) := by
    intro l
    induction l with
    | nil => intro vs hl; simp only [resL, Option.some.injEq] at hl; subst hl; exact ⟨[], by simp, rfl, by simp⟩
    | cons r l ih =>
      intro vs hl
      simp only [resL] at hl
      obtain ⟨v1, e1, hl⟩ := Option.bind_eq_some_iff.1 hl
      obtain ⟨vs1, e2, rfl⟩ := Option.map_eq_some_iff.1 hl
      obtain ⟨x, h1, h2⟩ := resA_ok (P := P) H S e1
      obtain ⟨xs, h3, h4, h5⟩ := ih vs1 e2
      refine ⟨x :: xs, ?_, by simp [h4], ?_⟩
      · rw [List.mapM_cons, Sem.run_bind, h1]
        simp only [Result.andThen_ok, Sem.run_bind]
        rw [h3]
        rfl
      · intro j u hu
        cases j with
        | zero => simp at hu; subst hu; exact h2
        | succ j => simp at hu; simpa using h5 j u hu
  obtain ⟨xs, h1, h2, h3⟩ := key _ _ hvs
  have hm : (results fn a.tmps).run P w = .ok (if h : xs.toArray.size = 1 then xs.toArray[0] else .tuple xs.toArray) w := by
    simp only [results, Sem.run_bind, Array.mapM_eq_mapM_toList, Sem.run_map]
    erw [h1]
    simp only [Result.andThen_ok, Sem.run_pure]
  refine ⟨_, hm, ?_⟩
  cases vs with
  | nil =>
    have : xs = [] := List.eq_nil_of_length_eq_zero (by simpa using h2)
    subst this
    simpa using VR.tup (w := w) (c := c) [] #[] rfl (by simp)
  | cons v vs =>
    cases vs with
    | nil =>
      obtain ⟨x, rfl⟩ : ∃ x, xs = [x] := List.length_eq_one_iff.1 (by simpa using h2)
      have := h3 0 v rfl
      simpa using this
    | cons v' vs =>
      have : ¬ xs.toArray.size = 1 := by simp only [List.size_toArray, h2, List.length_cons]; omega
      rw [dif_neg this]
      refine .tup _ _ (by simp [h2]) fun j u hu => ?_
      rw [Array.getD_eq_getD_getElem?, List.getElem?_toArray]
      exact h3 j u hu

def RunOk (P : Program) (n : Nat) (c : Code) (st : St) (h : Hp) (e : Exit) (st' : St) (h' : Hp) : Prop :=
  ∀ {w : World} {ctx : Ctx} {a : Act} (H : HR w ctx h) (S : SR n w ctx st a) {Q : Exit → Act → World → Prop}, (∀ w' c' a', Ext w ctx w' c' → HR w' c' h' → SR n w' c' st' a' → Q e a' w') → c.wp P Q a w
/-- A loop, from its body on. -/
def LoopOk (P : Program) (n : Nat) (b : Code) (st : St) (h : Hp) (e : Exit) (st' : St) (h' : Hp) : Prop :=
  ∀ {w : World} {ctx : Ctx} {a : Act} (H : HR w ctx h) (S : SR n w ctx st a) {Q : Exit → Act → World → Prop}, (∀ w' c' a', Ext w ctx w' c' → HR w' c' h' → SR n w' c' st' a' → Q e a' w') →
    ∀ (fb : Frame) (kk : List Item) (cs : List Frame), ∃ e a' w', Q e a' w' ∧ Arrives P (lone (fb.at a (.code b :: .inLoop b :: kk)) cs w) fb kk cs e a' w'
def ExitOk : Exit → Prop
  | .normal | .exit _ | .ret => True
  | _ => False

theorem args_start {w : World} {c : Ctx} {args : List AV} {vs : Array Value} (ha : ArgsR w c args vs) {n : Nat} (hn : args.length ≤ n) : SR n w c (initSt args) { tmps := vs ++ Array.replicate (n - vs.size) Go.undef, defers := [] } := by
  refine ⟨rfl, by have := ha.1; simp; omega, fun i => ?_⟩
  simp only [initSt]
  rw [Array.getD_eq_getD_getElem?]
  have hl := ha.1
  by_cases hi : i < args.length
  · rw [List.getElem?_eq_getElem hi, Option.getD_some, Array.getElem?_append_left (by omega)]
    have := ha.2 i _ (List.getElem?_eq_getElem hi)
    rw [Array.getD_eq_getD_getElem?] at this
    exact this
  · rw [List.getElem?_eq_none (by omega), Option.getD_none, Array.getElem?_append_right (by omega), Array.getElem?_replicate]
    split <;> exact .skp

theorem ctx_nil {w : World} {fz : Nat → Prop} (hf : ∀ b, fz b → b < w.heap.size) : HR w { base := w.heap.size, nx := 0, loc := fun _ => .dead, fz := fz } Hp.empty :=
  ⟨rfl, fun _ _ => rfl, fun _ _ => rfl, fun id b hb => by simp [Hp.empty] at hb, (fun i j b r s hi => by cases hi), hf, Nat.le_refl _, fun _ hp => hp.elim⟩

theorem VR.base_any {w : World} {fz : Nat → Prop} {v : AV} {x : Value} {B : Nat} (h : VR w (pctx fz) v x) : VR w { base := B, nx := 0, loc := fun _ => .dead, fz := fz } v x := by
  induction h with
  | undef v => exact .undef v
  | skp => exact .skp
  | bool b => exact .bool b
  | int k n => exact .int k n
  | nil => exact .nil
  | lst0 => exact .lst0
  | lst xs a cap sz cv hcap hfz hu hcell hc hv ih => exact .lst xs a cap sz cv hcap hfz hu hcell hc ih
  | sl id off n sz v hid h => exact absurd hid (Nat.not_lt_zero _)
  | pp cs a cv hfz hcell hc hv ih => exact .pp cs a cv hfz hcell hc ih
  | ptr id off v hid h => exact absurd hid (Nat.not_lt_zero _)
  | agg cs vs hl hcell hv ih => exact .agg cs vs hl hcell ih
  | tup cs vs hl hv ih => exact .tup cs vs hl ih
  | fn f cs vs hl hv ih => exact .fn f cs vs hl ih
  | nilfn => exact .nilfn
  | nilmp => exact .nilmp
  | mp id v hid h => exact absurd hid (Nat.not_lt_zero _)
  | mv ks vs r ents clk hfz hb hl hk hkk hbo hv ih => exact .mv ks vs r ents clk hfz hb hl hk hkk hbo ih

/-- What the configuration takes on trust of some functions. -/
abbrev ExtOk (P : Program) (cfg : Cfg) : Prop := ∀ f args r, cfg.ext f args = some r → PureOk P f args r ∧ (cfg.own f = false → r.isPure = true)

theorem sound (hext : ExtOk P cfg) (k : Nat) :
    (∀ n c st h x st' h', codeOk cfg n c = true → run P cfg k c st h = some (x, st', h') → ExitOk x ∧ RunOk P n c st h x st' h') ∧
    (∀ f args h v h', callS P cfg k f args h = some (v, h') → CallOk P f args h v h') ∧ (∀ f args r, callP P cfg k f args = some r → PureOk P f args r) ∧ OutOk P (callO P cfg k) ∧
    (∀ n b st h x st' h', codeOk cfg n b = true → run P cfg k (.loop b) st h = some (x, st', h') → ExitOk x ∧ LoopOk P n b st h x st' h') := by
  induction k with
  | zero =>
    refine ⟨?_, ?_, ?_, ?_, ?_⟩
    · intro n c st h x st' h' _ hr; simp [run] at hr
    · intro f args h v h' hr; simp [callS] at hr
    · intro f args r hr; simp [callP] at hr
    · intro f args h v h' hr; simp [callO] at hr
    · intro n c st h x st' h' _ hr; simp [run] at hr
  | succ k ih =>
    obtain ⟨i1, i2, i3, i4, i5⟩ := ih
    obtain ⟨_, _, n3, n4⟩ := all_nx (P := P) (cfg := cfg) k
    have hloop : ∀ n b st h x st' h', codeOk cfg n b = true → run P cfg (k + 1) (.loop b) st h = some (x, st', h') → ExitOk x ∧ LoopOk P n b st h x st' h' := by
      intro n b st h x st' h' hok hr
      simp only [run] at hr
      obtain ⟨⟨x1, s1, h1⟩, e1, hr⟩ := Option.bind_eq_some_iff.1 hr
      obtain ⟨o1, r1⟩ := i1 n b _ _ _ _ _ hok e1
      split at hr
      · rename_i heq
        cases heq
        obtain ⟨o2, r2⟩ := i5 n b _ _ _ _ _ hok hr
        refine ⟨o2, fun {w ctx a} H S Q hQ fb kk cs => ?_⟩
        obtain ⟨e, a1, w1, hq, harr⟩ := r1 H S (Q := fun e a' w' => e = .normal ∧ ∃ e2 a2 w2, Q e2 a2 w2 ∧ Arrives P (lone (fb.at a' (.code b :: .inLoop b :: kk)) cs w') fb kk cs e2 a2 w2)
          (fun w' c' a' E H' S' => ⟨rfl, r2 H' S' (fun w2 c2 a2 E2 H2 S2 => hQ w2 c2 a2 (E.trans E2) H2 S2) fb kk cs⟩) fb (.inLoop b :: kk) cs
        obtain ⟨rfl, e2, a2, w2, hq2, harr2⟩ := hq
        exact ⟨e2, a2, w2, hq2, .of_steps (Steps.trans harr (.one step_inLoop)) harr2⟩
      · rename_i hne
        cases hr
        refine ⟨o1, fun {w ctx a} H S Q hQ fb kk cs => ?_⟩
        obtain ⟨e, a1, w1, hq, harr⟩ := r1 H S (Q := fun e a w => e ≠ .normal ∧ Q e a w) (fun w' c' a' E H' S' => ⟨fun he => by subst he; exact hne _ _ rfl, hQ w' c' a' E H' S'⟩) fb (.inLoop b :: kk) cs
        exact ⟨e, a1, w1, hq.2, .pass (x := .inLoop b) rfl (fun _ _ => .inl hq.1) harr⟩
    refine ⟨?_, ?_, ?_, ?_, hloop⟩
    · intro n c st h x st' h' hok hr
      cases c <;> simp only [run] at hr <;> (try (cases hr; done))
      case skip => cases hr; exact ⟨trivial, fun H S Q hQ => wp_skip (hQ _ _ _ (Ext.refl _ _) H S)⟩
      case label l => cases hr; exact ⟨trivial, fun H S Q hQ => wp_label (hQ _ _ _ (Ext.refl _ _) H S)⟩
      case exit id => cases hr; exact ⟨trivial, fun H S Q hQ => wp_exit (hQ _ _ _ (Ext.refl _ _) H S)⟩
      case ret => cases hr; exact ⟨trivial, fun H S Q hQ => wp_ret (hQ _ _ _ (Ext.refl _ _) H S)⟩
      case region id ops draw =>
        obtain ⟨⟨s1, h1⟩, e1, e⟩ := Option.map_eq_some_iff.1 hr
        cases e
        exact ⟨trivial, fun H S Q hQ => region_ok i4 n4 n3 (callO_calm (fun f args r he => (hext f args r he).2) k) hok e1 H S hQ⟩
      case seq a b =>
        simp only [codeOk, Bool.and_eq_true] at hok
        obtain ⟨⟨x1, s1, h1⟩, e1, hr⟩ := Option.bind_eq_some_iff.1 hr
        obtain ⟨o1, r1⟩ := i1 n a _ _ _ _ _ hok.1 e1
        split at hr
        · rename_i heq
          cases heq
          obtain ⟨o2, r2⟩ := i1 n b _ _ _ _ _ hok.2 hr
          refine ⟨o2, fun H S Q hQ => wp_seq (r1 H S fun w' c' a' E H' S' => ?_)⟩
          exact r2 H' S' fun w2 c2 a2 E2 H2 S2 => hQ w2 c2 a2 (E.trans E2) H2 S2
        · rename_i hne
          cases hr
          refine ⟨o1, fun H S Q hQ => wp_seq (r1 H S fun w' c' a' E H' S' => ?_)⟩
          have := hQ w' c' a' E H' S'
          cases x <;> first | exact this | exact absurd rfl (hne _ _)
      case cond c a b =>
        simp only [codeOk, Bool.and_eq_true] at hok
        split at hr
        · rename_i t ht
          have hx : ∀ {w ctx} {act : Act}, SR n w ctx st act → act.eval c = .bool t := by
            intro w ctx act S
            have := S.ev c
            rw [ht] at this
            exact this.bool_inv
          cases t with
          | true =>
            obtain ⟨o1, r1⟩ := i1 n a _ _ _ _ _ hok.1 hr
            exact ⟨o1, fun H S Q hQ => wp_cond_true (hx S) (r1 H S hQ)⟩
          | false =>
            obtain ⟨o1, r1⟩ := i1 n b _ _ _ _ _ hok.2 hr
            exact ⟨o1, fun H S Q hQ => wp_cond_false (hx S) (r1 H S hQ)⟩
        · cases hr
      case block id b =>
        simp only [codeOk] at hok
        obtain ⟨⟨x1, s1, h1⟩, e1, e⟩ := Option.map_eq_some_iff.1 hr
        obtain ⟨o1, r1⟩ := i1 n b _ _ _ _ _ hok e1
        split at e
        · rename_i j s2 h2 heq
          cases heq
          cases e
          refine ⟨by split <;> trivial, fun H S Q hQ => wp_block (r1 H S fun w' c' a' E H' S' => ?_)⟩
          have := hQ w' c' a' E H' S'
          simp only [Exit.inBlock]
          split
          · rename_i hj; rw [if_pos hj] at this; exact this
          · rename_i hj; rw [if_neg hj] at this; exact this
        · rename_i hne
          cases e
          refine ⟨o1, fun H S Q hQ => wp_block (r1 H S fun w' c' a' E H' S' => ?_)⟩
          have := hQ w' c' a' E H' S'
          cases x <;> first | exact this | exact absurd rfl (hne _ _ _)
      case loop b =>
        simp only [codeOk] at hok
        obtain ⟨o1, r1⟩ := hloop n b _ _ _ _ _ hok (by simp only [run]; exact hr)
        refine ⟨o1, fun {w ctx a} H S Q hQ fb kk cs => ?_⟩
        obtain ⟨e, a1, w1, hq, harr⟩ := r1 H S hQ fb kk cs
        exact ⟨e, a1, w1, hq, .of_steps (.one step_loop) harr⟩
      case scope b =>
        simp only [codeOk] at hok
        obtain ⟨o1, r1⟩ := i1 n b _ _ _ _ _ hok hr
        refine ⟨o1, fun H S Q hQ => wp_scope_straight (r1 H S fun w' c' a' E H' S' => ?_)⟩
        have := hQ w' c' a' E H' S'
        cases x <;> first | exact this | exact o1.elim
    · -- a call in the caller's memory
      intro f args h v h' hr
      simp only [callS] at hr
      split at hr
      · cases hr
      rename_i fn hfn
      split at hr
      · cases hr
      rename_i body hbody
      split at hr
      case isFalse => cases hr
      case isTrue hok =>
      obtain ⟨hfo, hlen⟩ := hok
      simp only [funcOk, Bool.and_eq_true, decide_eq_true_eq] at hfo
      obtain ⟨⟨hname, _⟩, hcode⟩ := hfo
      have hname' : (fn.name == "runtime.NumGoroutine") = false := by simpa [bne] using hname
      refine ⟨⟨fn, hfn, by rw [hbody]; rfl, hname'⟩, fun w c vs H ha R hR => ?_⟩
      have S0 := args_start ha hlen
      refine calls_of_wp hfn hbody ?_
      have fin : ∀ {x : Exit} {st' : St} {h1 : Hp}, run P cfg k body (initSt args) h = some (x, st', h1) → (x = .normal ∨ x = .ret) → ((resR P h1 st' fn.results.toList).map fun v => (v, h1)) = some (v, h') →
          body.wp P (bodyPost P fn R) { tmps := vs ++ Array.replicate (fn.ntmps - vs.size) Go.undef, defers := [] } w := by
        intro x st' h1 hrun hx hres
        obtain ⟨u, hu, e⟩ := Option.map_eq_some_iff.1 hres
        cases e
        obtain ⟨_, r1⟩ := i1 fn.ntmps body _ _ _ _ _ hcode hrun
        refine r1 H S0 fun w' c' a' E H' S' => ?_
        obtain ⟨y, h2, h3⟩ := resR_ok (P := P) (fn := fn) H' S' hu
        rcases hx with rfl | rfl
        · exact ⟨S'.defers, y, h2, hR y w' c' E H' h3⟩
        · exact ⟨S'.defers, y, h2, hR y w' c' E H' h3⟩
      split at hr
      · rename_i hrun; exact fin hrun (.inl rfl) hr
      · rename_i hrun; exact fin hrun (.inr rfl) hr
      · cases hr
    · -- a call that shares no memory
      intro f args r hr
      simp only [callP] at hr
      split at hr
      · rename_i r' he
        cases hr
        exact (hext _ _ _ he).1
      · split at hr
        · cases hr
        rename_i fn hfn
        obtain ⟨⟨v, hc⟩, e1, hr⟩ := Option.bind_eq_some_iff.1 hr
        obtain ⟨hen, hcall⟩ := i2 _ _ _ _ _ e1
        refine ⟨hen, fun w fz vs hf ha R hR => ?_⟩
        have ha' : ArgsR w { base := w.heap.size, nx := 0, loc := fun _ => .dead, fz := fz } args vs := by
          refine ⟨ha.1, fun j u hu => ?_⟩
          have := ha.2 j u hu
          exact VR.base_any this
        refine hcall w _ vs (ctx_nil hf) ha' R fun x w' c' E H' V => ?_
        obtain ⟨c2, h2, E2, H2, hres⟩ := exportR_ok (P := P) H' V hr
        have hb : c'.base = w.heap.size := E.base
        rw [hb] at hres
        refine hR x w' c2.fz E.below (fun b hb => E2.fz b (E.fz b hb)) (fun b hfb => ?_) hres
        have hlt := H2.fzlt b hfb
        rcases (E.trans E2).fzb b hfb with h | h
        · exact .inl h
        · exact .inr ⟨h, hlt⟩
    · -- a call out of a function
      intro f args h v h' hr
      simp only [callO] at hr
      split at hr
      · exact i2 _ _ _ _ _ hr
      · obtain ⟨⟨as, h1⟩, e1, hr⟩ := Option.bind_eq_some_iff.1 hr
        obtain ⟨r, e2, hr⟩ := Option.bind_eq_some_iff.1 hr
        obtain ⟨hen, hcall⟩ := i3 _ _ _ e2
        refine ⟨hen, fun w c vs H ha R hR => ?_⟩
        obtain ⟨c1, E1, H1, hl1, hr1, hp1⟩ := sealArgs_ok args H (fun j => vs.getD j Go.undef) ha.2 e1
        refine hcall w c1.fz vs H1.fzlt ⟨by rw [hl1]; exact ha.1, fun j u hu => (hr1 j u hu).toP (pureL_get hp1 hu)⟩ R fun x w' fz' hb hfz hfz' hres => ?_
        split at hr
        · rename_i hsc
          cases hr
          -- nothing but numbers comes back: nothing need stay sealed
          have E := Ext.grow H hb c.fz (fun _ h => h) (fun _ h => .inl h)
          have H' := H.grow hb c.fz (fun _ h => h) (fun _ h => .inl h)
          refine hR x w' _ E H' ?_
          rcases hres with ⟨us, xs, bss, rfl, rfl, hlen, hg, _⟩ | ⟨hnt, bs, hg⟩
          · refine .tup _ _ hlen fun j u hu => ?_
            have hsu : u.isFlat = true := List.all_eq_true.1 (by simpa [AV.isScalar] using hsc) u (List.mem_of_getElem? hu)
            rcases hg j u hu with ⟨sz, fl, rfl, _⟩ | ⟨_, hv, _⟩ | ⟨u', rfl, _⟩
            · simp [AV.isFlat, AV.isNum] at hsu
            · exact flat_ok hv hsu
            · simp [AV.isFlat, AV.isNum] at hsu
          · rcases hg with ⟨sz, fl, rfl, _⟩ | ⟨_, hv, _⟩ | ⟨u', rfl, _⟩
            · simp [AV.isScalar, AV.isFlat, AV.isNum] at hsc
            · exact scalar_ok hv hsc
            · simp [AV.isScalar, AV.isFlat, AV.isNum] at hsc
        split at hr
        · rename_i hfree
          simp only [Option.some.injEq] at hr
          have E := Ext.grow H hb c.fz (fun _ h => h) (fun _ h => .inl h)
          have H' := H.grow hb c.fz (fun _ h => h) (fun _ h => .inl h)
          obtain ⟨c3, E3, H3, V3⟩ := importR_ok H' (B := w.heap.size) H.base (fun b hp => (H.priv b hp).1) (hres.loose (fun b hb => hfz b (E1.fz b hb)) hfree) (fun id b s hb' => by
            obtain ⟨_, _, _, _, h2, _⟩ := H.at hb'
            exact h2)
          rw [hr] at H3 V3
          exact hR x w' c3 (E.trans E3) H3 V3
        · simp only [Option.some.injEq] at hr
          have E := Ext.grow H1 hb fz' hfz hfz'
          have H2 := H1.grow hb fz' hfz hfz'
          obtain ⟨c3, E3, H3, V3⟩ := importR_ok H2 (B := w.heap.size) H1.base (fun b hp => (H1.priv b hp).1) hres (fun id b s hb' => by
            obtain ⟨_, _, _, _, h2, _⟩ := H1.at hb'
            exact h2)
          rw [hr] at H3 V3
          exact hR x w' c3 ((E1.trans E).trans E3) H3 V3

end
end Go.Am

