/-
  Runs of the second machine, forwards: more fuel never hurts, and rules for each form of code.
-/
import Derived.Test.YtcdpkgmkckfonaaAmLaw
set_option linter.unusedVariables false
set_option linter.unusedSimpArgs false
namespace Go.Am
open Go

section
variable {P : Program} {cfg : Cfg}

theorem stepK_mono {dp : Bool} {call call' : FuncId → List AV → Hp → Option (AV × Hp)} (hc : ∀ f a h r, call f a h = some r → call' f a h = some r) {ops : Array Oper} {lim : Option Nat} {o : Oper} {st : St} {h : Hp} {r : AV × Hp}
    (hs : stepK P dp call ops lim o st h = some r) : stepK P dp call' ops lim o st h = some r := by
  unfold stepK at hs ⊢
  split
  · rename_i h1; rw [h1] at hs; exact hs
  · rename_i h1; rw [h1] at hs
    simp only at hs
    split
    · rename_i h2; rw [h2] at hs; exact hs
    · rename_i h2; rw [h2] at hs
      simp only at hs
      split
      · rename_i h3; rw [h3] at hs; exact hs
      · rename_i h3; rw [h3] at hs
        simp only at hs
        split
        · rename_i h4; rw [h4] at hs; exact hs
        · rename_i h4; rw [h4] at hs
          simp only at hs
          split
          · rename_i h5; rw [h5] at hs
            simp only at hs
            split
            · rename_i h6; rw [h6] at hs; exact hc _ _ _ _ hs
            · rename_i h6
              split at hs
              · rename_i g caps h7; exact absurd h7 (h6 g caps)
              · cases hs
          · rename_i h5
            split at hs
            · rename_i h7; exact absurd h7 (h5 _ _ _)
            · cases hs

theorem stepO_mono {dp : Bool} {call call' : FuncId → List AV → Hp → Option (AV × Hp)} (hc : ∀ f a h r, call f a h = some r → call' f a h = some r) {ops : Array Oper} {lim : Option Nat} {o : Oper} {st : St} {h : Hp} {st1 : St} {h1 : Hp}
    (e1 : stepO P dp call ops lim o st h = some (st1, h1)) : stepO P dp call' ops lim o st h = some (st1, h1) := by
  have go : ∀ {st1 h1}, (stepK P dp call ops lim o st h).map (fun (v, h') => (updO st o.dst v, h')) = some (st1, h1) → (stepK P dp call' ops lim o st h).map (fun (v, h') => (updO st o.dst v, h')) = some (st1, h1) := by
    intro st1 h1 e
    obtain ⟨r, h2, h3⟩ := Option.map_eq_some_iff.1 e
    rw [stepK_mono hc h2]
    rw [← h3]; rfl
  unfold stepO at e1 ⊢
  split
  · rename_i h2; rw [h2] at e1; exact go e1
  · rename_i h2; rw [h2] at e1
    simp only at e1
    split
    · rename_i h3; rw [h3] at e1; exact e1
    · rename_i h3; rw [h3] at e1
      simp only at e1
      split
      · rename_i h4; rw [h4] at e1
        simp only at e1
        split
        · rename_i h5; rw [if_pos h5] at e1; exact go e1
        · rename_i h5; rw [if_neg h5] at e1; exact e1
      · rename_i h4; rw [h4] at e1; exact e1
      · rename_i h4 h5
        split at e1
        · rename_i h6; exact absurd h6 (h4 _)
        · rename_i h6; exact absurd h6 h5
        · exact e1

theorem runOps_mono {dp : Bool} {call call' : FuncId → List AV → Hp → Option (AV × Hp)} (hc : ∀ f a h r, call f a h = some r → call' f a h = some r) {ops : Array Oper} {lim : Option Nat} :
    ∀ (os : List Oper) (st : St) (h : Hp) (r : St × Hp), runOps P dp call ops lim os st h = some r → runOps P dp call' ops lim os st h = some r := by
  intro os
  induction os with
  | nil => intro st h r hr; exact hr
  | cons o os ih =>
    intro st h r hr
    simp only [runOps] at hr ⊢
    obtain ⟨⟨st1, h1⟩, e1, hr⟩ := Option.bind_eq_some_iff.1 hr
    rw [stepO_mono hc e1]
    exact ih _ _ _ hr
theorem runOpsS_mono {call call' : FuncId → List AV → Hp → Option (AV × Hp)} (hc : ∀ f a h r, call f a h = some r → call' f a h = some r) {ops : Array Oper} {l : Nat → Bool} :
    ∀ (os : List Oper) (st : St) (h : Hp) (r : St × Hp), runOpsS P cfg call ops l os st h = some r → runOpsS P cfg call' ops l os st h = some r := by
  intro os
  induction os with
  | nil => intro st h r hr; exact hr
  | cons o os ih =>
    intro st h r hr
    simp only [runOpsS] at hr ⊢
    obtain ⟨⟨st1, h1⟩, e1, hr⟩ := Option.bind_eq_some_iff.1 hr
    have : stepS P cfg call' ops l o st h = some (st1, h1) := by
      obtain ⟨k1, k2, k3⟩ := stepS_iff.1 e1
      exact stepS_iff.2 ⟨k1, stepO_mono hc k2, k3⟩
    rw [this]
    exact ih _ _ _ hr

/-! ### One step of a run -/
theorem run_region (k : Nat) (id : Nat) (ops : Array Oper) (draw : Bool) (st : St) (h : Hp) : run P cfg (k + 1) (.region id ops draw) st h = (if draw && cfg.strict id ops.size then runOpsS P cfg (callO P cfg k) ops (okIds h.nx (wrIds ops st ++ wrX (cfg.wr id ops.size) st)) ops.toList st h
        else runOps P cfg.deep (callO P cfg k) ops (if draw then some h.nx else none) ops.toList st h).map fun (st', h') => (.normal, st', h') := by
  simp only [run]
theorem run_seq (k : Nat) (a b : Code) (st : St) (h : Hp) : run P cfg (k + 1) (.seq a b) st h = (run P cfg k a st h).bind fun
      | (.normal, st', h') => run P cfg k b st' h'
      | r => some r := by
  rw [run]; rfl
theorem run_cond (k : Nat) (c : Operand) (a b : Code) (st : St) (h : Hp) : run P cfg (k + 1) (.cond c a b) st h = match ev st c with
      | .bool t => run P cfg k (if t then a else b) st h
      | _ => none := by
  rw [run]; rfl
theorem run_block (k : Nat) (id : Nat) (b : Code) (st : St) (h : Hp) : run P cfg (k + 1) (.block id b) st h = (run P cfg k b st h).map fun
      | (.exit j, st', h') => (if j = id then .normal else .exit j, st', h')
      | r => r := by
  rw [run]; rfl
theorem run_loop (k : Nat) (b : Code) (st : St) (h : Hp) : run P cfg (k + 1) (.loop b) st h = (run P cfg k b st h).bind fun
      | (.normal, st', h') => run P cfg k (.loop b) st' h'
      | r => some r := by
  rw [run]; rfl
theorem run_scope (k : Nat) (b : Code) (st : St) (h : Hp) : run P cfg (k + 1) (.scope b) st h = run P cfg k b st h := by
  rw [run]

theorem mono1 (k : Nat) : (∀ c st h r, run P cfg k c st h = some r → run P cfg (k + 1) c st h = some r) ∧ (∀ f a h r, callS P cfg k f a h = some r → callS P cfg (k + 1) f a h = some r) ∧
    (∀ f a r, callP P cfg k f a = some r → callP P cfg (k + 1) f a = some r) ∧ (∀ f a h r, callO P cfg k f a h = some r → callO P cfg (k + 1) f a h = some r) := by
  induction k with
  | zero =>
    refine ⟨?_, ?_, ?_, ?_⟩
    · intro c st h r hr; simp [run] at hr
    · intro f a h r hr; simp [callS] at hr
    · intro f a r hr; simp [callP] at hr
    · intro f a h r hr; simp [callO] at hr
  | succ k ih =>
    obtain ⟨i1, i2, i3, i4⟩ := ih
    refine ⟨?_, ?_, ?_, ?_⟩
    · intro c st h r hr
      cases c with
      | region id ops draw =>
        rw [run_region] at hr ⊢
        obtain ⟨r', h1, h2⟩ := Option.map_eq_some_iff.1 hr
        split at h1
        · rename_i hc; rw [if_pos hc, runOpsS_mono i4 _ _ _ _ h1, ← h2]; rfl
        · rename_i hc; rw [if_neg hc, runOps_mono i4 _ _ _ _ h1, ← h2]; rfl
      | seq a b =>
        rw [run_seq] at hr ⊢
        obtain ⟨⟨x, st', h'⟩, h1, h2⟩ := Option.bind_eq_some_iff.1 hr
        rw [i1 _ _ _ _ h1]
        cases x <;> first | exact i1 _ _ _ _ h2 | exact h2
      | cond c a b =>
        rw [run_cond] at hr ⊢
        split
        · rename_i h1; rw [h1] at hr; exact i1 _ _ _ _ hr
        · rename_i h1
          split at hr
          · rename_i h2; exact absurd h2 (h1 _)
          · cases hr
      | block id b =>
        rw [run_block] at hr ⊢
        obtain ⟨⟨x, st', h'⟩, h1, h2⟩ := Option.map_eq_some_iff.1 hr
        rw [i1 _ _ _ _ h1]
        rw [← h2]; rfl
      | loop b =>
        rw [run_loop] at hr ⊢
        obtain ⟨⟨x, st', h'⟩, h1, h2⟩ := Option.bind_eq_some_iff.1 hr
        rw [i1 _ _ _ _ h1]
        cases x <;> first | exact i1 _ _ _ _ h2 | exact h2
      | scope b => rw [run_scope] at hr ⊢; exact i1 _ _ _ _ hr
      | skip => simp only [run] at hr ⊢; exact hr
      | label _ => simp only [run] at hr ⊢; exact hr
      | exit _ => simp only [run] at hr ⊢; exact hr
      | ret => simp only [run] at hr ⊢; exact hr
      | _ => simp [run] at hr
    · intro f a h r hr
      simp only [callS] at hr ⊢
      split
      · rename_i h1; rw [h1] at hr; exact hr
      · rename_i h1; rw [h1] at hr
        simp only at hr
        split
        · rename_i h2; rw [h2] at hr; exact hr
        · rename_i h2; rw [h2] at hr
          simp only at hr
          split
          · rename_i h3; rw [if_pos h3] at hr
            split at hr
            · rename_i h4; rw [i1 _ _ _ _ h4]; exact hr
            · rename_i h4; rw [i1 _ _ _ _ h4]; exact hr
            · cases hr
          · rename_i h3; rw [if_neg h3] at hr; exact hr
    · intro f a r hr
      simp only [callP] at hr ⊢
      split
      · rename_i h1; rw [h1] at hr; exact hr
      · rename_i h1; rw [h1] at hr
        simp only at hr
        split
        · rename_i h2; rw [h2] at hr; exact hr
        · rename_i h2; rw [h2] at hr
          obtain ⟨x, h3, h4⟩ := Option.bind_eq_some_iff.1 hr
          rw [i2 _ _ _ _ h3]; exact h4
    · intro f a h r hr
      simp only [callO] at hr ⊢
      split
      · rename_i h1; rw [if_pos h1] at hr; exact i2 _ _ _ _ hr
      · rename_i h1; rw [if_neg h1] at hr
        obtain ⟨x, h3, h4⟩ := Option.bind_eq_some_iff.1 hr
        obtain ⟨y, h5, h6⟩ := Option.bind_eq_some_iff.1 h4
        simp only [h3, Option.bind_some, i3 _ _ _ h5]; exact h6

theorem run_le {k k' : Nat} (hk : k ≤ k') {c : Code} {st : St} {h : Hp} {r : Exit × St × Hp} (hr : run P cfg k c st h = some r) : run P cfg k' c st h = some r := by
  induction hk with
  | refl => exact hr
  | step _ ih => exact (mono1 _).1 _ _ _ _ ih
theorem callS_le {k k' : Nat} (hk : k ≤ k') {f : FuncId} {a : List AV} {h : Hp} {r : AV × Hp} (hr : callS P cfg k f a h = some r) : callS P cfg k' f a h = some r := by
  induction hk with
  | refl => exact hr
  | step _ ih => exact (mono1 _).2.1 _ _ _ _ ih
theorem callP_le {k k' : Nat} (hk : k ≤ k') {f : FuncId} {a : List AV} {r : AV} (hr : callP P cfg k f a = some r) : callP P cfg k' f a = some r := by
  induction hk with
  | refl => exact hr
  | step _ ih => exact (mono1 _).2.2.1 _ _ _ ih
theorem callO_le {k k' : Nat} (hk : k ≤ k') {f : FuncId} {a : List AV} {h : Hp} {r : AV × Hp} (hr : callO P cfg k f a h = some r) : callO P cfg k' f a h = some r := by
  induction hk with
  | refl => exact hr
  | step _ ih => exact (mono1 _).2.2.2 _ _ _ _ ih
theorem runOps_le {k k' : Nat} (hk : k ≤ k') {ops : Array Oper} {lim : Option Nat} {os : List Oper} {st : St} {h : Hp} {r : St × Hp} (hr : runOps P cfg.deep (callO P cfg k) ops lim os st h = some r) :
    runOps P cfg.deep (callO P cfg k') ops lim os st h = some r := runOps_mono (fun _ _ _ _ => callO_le hk) _ _ _ _ hr
theorem runOpsS_le {k k' : Nat} (hk : k ≤ k') {ops : Array Oper} {l : Nat → Bool} {os : List Oper} {st : St} {h : Hp} {r : St × Hp} (hr : runOpsS P cfg (callO P cfg k) ops l os st h = some r) :
    runOpsS P cfg (callO P cfg k') ops l os st h = some r := runOpsS_mono (fun _ _ _ _ => callO_le hk) _ _ _ _ hr
end

/-! ### What holds behind a run -/
section
variable (P : Program) (cfg : Cfg)

def WP (c : Code) (st : St) (h : Hp) (Q : Exit → St → Hp → Prop) : Prop := ∃ k x st' h', run P cfg k c st h = some (x, st', h') ∧ Q x st' h'
def OpsW (ops : Array Oper) (lim : Option Nat) (os : List Oper) (st : St) (h : Hp) (K : St → Hp → Prop) : Prop := ∃ k st' h', runOps P cfg.deep (callO P cfg k) ops lim os st h = some (st', h') ∧ K st' h'
def OpsS (ops : Array Oper) (l : Nat → Bool) (os : List Oper) (st : St) (h : Hp) (K : St → Hp → Prop) : Prop := ∃ k st' h', runOpsS P cfg (callO P cfg k) ops l os st h = some (st', h') ∧ K st' h'
def SK (ops : Array Oper) (l : Nat → Bool) (os : List Oper) (K : St → Hp → Prop) : St → Hp → Prop := fun st h => OpsS P cfg ops l os st h K
/-- A call out of a function. -/
def CallW (f : FuncId) (args : List AV) (h : Hp) (K : AV → Hp → Prop) : Prop := ∃ k v h', callO P cfg k f args h = some (v, h') ∧ K v h'
/-- A call in the caller's memory. -/
def Shr (f : FuncId) (args : List AV) (h : Hp) (v : AV) (h' : Hp) : Prop := ∃ k, callS P cfg k f args h = some (v, h')
/-- A call that shares no memory. -/
def Con (f : FuncId) (args : List AV) (r : AV) : Prop := ∃ k, callP P cfg k f args = some r

/-- Continuations, by name, so that 'simp' leaves them alone. -/
def SeqK (b : Code) (Q : Exit → St → Hp → Prop) : Exit → St → Hp → Prop := fun x st h => match x with | .normal => WP P cfg b st h Q | x => Q x st h
def BlockK (id : Nat) (Q : Exit → St → Hp → Prop) : Exit → St → Hp → Prop := fun x st h => match x with | .exit j => Q (if j = id then .normal else .exit j) st h | x => Q x st h
def RegK (Q : Exit → St → Hp → Prop) : St → Hp → Prop := fun st h => Q .normal st h
def NextK (ops : Array Oper) (lim : Option Nat) (os : List Oper) (dst : Option Nat) (st : St) (K : St → Hp → Prop) : AV → Hp → Prop := fun v h => OpsW P cfg ops lim os (updO st dst v) h K
def StepW (ops : Array Oper) (lim : Option Nat) (o : Op) (st : St) (h : Hp) (K : AV → Hp → Prop) : Prop :=
  ∃ k v h', stepK P cfg.deep (callO P cfg k) ops lim ⟨none, o, 0, default, #[], none⟩ st h = some (v, h') ∧ K v h'
/-- Keeps 'simp' out of what comes later. -/
inductive Tag (A : Prop) : Type
  | mk
def regW (b : Bool) (A B : Prop) (_ : Tag A := .mk) (_ : Tag B := .mk) : Prop := if b then A else B
def condW (v : AV) (A B : Prop) (_ : Tag A := .mk) (_ : Tag B := .mk) : Prop := match v with | .bool true => A | .bool false => B | _ => False
/-- An answer that must be there. -/
def getW (o : Option AV) (h : Hp) (K : AV → Hp → Prop) : Prop := ∃ v, o = some v ∧ K v h
def getW2 (o : Option (AV × Hp)) (K : AV → Hp → Prop) : Prop := ∃ v h, o = some (v, h) ∧ K v h
end
end Go.Am

