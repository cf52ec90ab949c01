/-
  Every order that a region may draw comes to what the order of its text comes to.
-/
import Derived.Test.YtcdpkgmkckfonaaAmSwap
set_option linter.unusedVariables false
set_option linter.unusedSimpArgs false
namespace Go.Am
open Go

section
variable {dp : Bool} {P : Program} {shared : FuncId → Bool} {call : FuncId → List AV → Hp → Option (AV × Hp)} {ops : Array Oper} {lim : Nat}
  {step : Oper → St → Hp → Option (St × Hp)} {pr : Nat → Nat → Oper → Oper → Bool}

def runL (step : Oper → St → Hp → Option (St × Hp)) (ops : Array Oper) : List Nat → St → Hp → Option (St × Hp)
  | [], st, h => some (st, h)
  | i :: is, st, h => match ops[i]? with
    | none => runL step ops is st h
    | some o => (step o st h).bind fun (st', h') => runL step ops is st' h'
def runG (step : Oper → St → Hp → Option (St × Hp)) : List Oper → St → Hp → Option (St × Hp)
  | [], st, h => some (st, h)
  | o :: os, st, h => (step o st h).bind fun (st', h') => runG step os st' h'
theorem runOps_runG (lim : Option Nat) : ∀ (l : List Oper) (st : St) (h : Hp), runOps P dp call ops lim l st h = runG (stepO P dp call ops lim) l st h := by
  intro l
  induction l with
  | nil => intro st h; rfl
  | cons o l ih =>
    intro st h
    simp only [runOps, runG]
    congr 1
    funext x
    exact ih x.1 x.2

/-- Steps that may change places as 'pr' says. -/
structure Swapper (lim : Nat) (step : Oper → St → Hp → Option (St × Hp)) (pr : Nat → Nat → Oper → Oper → Bool) : Prop where
  nx : ∀ {o st st' h h'}, step o st h = some (st', h') → h.nx ≤ h'.nx
  swap : ∀ {i j a b st st1 st2 h h1 h2}, pr i j a b = true → lim ≤ h.nx → step a st h = some (st1, h1) → step b st1 h1 = some (st2, h2) →
    ∃ st1' h1', step b st h = some (st1', h1') ∧ step a st1' h1' = some (st2, h2)

def CallMono (call : FuncId → List AV → Hp → Option (AV × Hp)) : Prop := ∀ g args h r h', call g args h = some (r, h') → h.nx ≤ h'.nx

theorem opWrite_nx {o : Op} {ρ : Operand → AV} {h h' : Hp} {v : AV} (hs : opWrite P o ρ h = some (v, h')) : h.nx ≤ h'.nx := by
  cases o <;> try (simp [opWrite] at hs; done)
  case store t a x =>
    simp only [opWrite] at hs
    repeat' split at hs
    all_goals first | cases hs; done | (cases hs; exact Nat.le_refl _)
  case mapUpdate t m k x =>
    simp only [opWrite] at hs
    repeat' split at hs
    all_goals first | cases hs; done | (cases hs; exact Nat.le_refl _)
  case insert t m k x =>
    simp only [opWrite] at hs
    repeat' split at hs
    all_goals first | cases hs; done | (cases hs; exact Nat.le_refl _)
  case call c =>
    obtain ⟨callee, args, ts⟩ := c
    cases callee <;> try (simp [opWrite] at hs; done)
    case builtin b =>
      cases b <;> try (simp [opWrite] at hs; done)
      case append =>
        simp only [opWrite] at hs
        repeat' split at hs
        all_goals first | cases hs; done | (cases hs; simp [Hp.alloc, Hp.put])
      case copy =>
        simp only [opWrite] at hs
        repeat' split at hs
        all_goals first | cases hs; done | (cases hs; exact Nat.le_refl _)
      case clear =>
        simp only [opWrite] at hs
        repeat' split at hs
        all_goals first | cases hs; done | (cases hs; exact Nat.le_refl _)

theorem stepO_nx (hm : CallMono call) {o : Oper} {st st' : St} {h h' : Hp} {l : Option Nat} (hs : stepO P dp call ops l o st h = some (st', h')) : h.nx ≤ h'.nx := by
  rw [stepO_act] at hs
  obtain ⟨⟨v, h1⟩, ha, e⟩ := Option.map_eq_some_iff.1 hs
  cases e
  have key : ∀ {v : AV} {h1 : Hp}, stepK P dp call ops l o st h = some (v, h1) → h.nx ≤ h1.nx := by
    intro v h1 hk
    unfold stepK at hk
    split at hk
    · cases hk; exact Nat.le_refl _
    · split at hk
      · cases hk; exact Nat.le_refl _
      · split at hk
        · rename_i r hr
          cases hk
          exact (opNew_agree (lim := 0) (Nat.zero_le _) hr).2
        · split at hk
          · rename_i r hr
            cases hk
            exact opWrite_nx hr
          · split at hk
            · split at hk
              · exact hm _ _ _ _ _ hk
              · cases hk
            · cases hk
  unfold act at ha
  cases hg : o.guard with
  | none => rw [hg] at ha; exact key ha
  | some g =>
    obtain ⟨j, w⟩ := g
    rw [hg] at ha
    dsimp only at ha
    cases hd : (ops[j]?).bind (·.dst) with
    | none => rw [hd] at ha; cases ha
    | some d =>
      rw [hd] at ha
      dsimp only at ha
      cases hst : st d <;> rw [hst] at ha <;> (try (cases ha; done))
      case bool b =>
        dsimp only at ha
        by_cases hb : b = w
        · rw [if_pos hb] at ha; exact key ha
        · rw [if_neg hb] at ha; cases ha; exact Nat.le_refl _
      case skp => cases ha; exact Nat.le_refl _

theorem runL_range : ∀ (l : List Oper) (k : Nat) (st : St) (h : Hp), ops.toList.drop k = l → runL step ops (List.range' k l.length) st h = runG step l st h := by
  intro l
  induction l with
  | nil => intro k st h _; rfl
  | cons o l ih =>
    intro k st h hk
    have h1 : ops[k]? = some o := by
      have : (ops.toList.drop k)[0]? = some o := by rw [hk]; rfl
      simpa using this
    have h2 : ops.toList.drop (k + 1) = l := by
      have : (ops.toList.drop k).drop 1 = l := by rw [hk]; rfl
      rw [List.drop_drop] at this
      exact this
    rw [List.length_cons, List.range'_succ]
    simp only [runL, h1, runG]
    congr 1
    funext x
    exact ih (k + 1) x.1 x.2 h2
theorem runL_text (st : St) (h : Hp) : runL step ops (List.range ops.size) st h = runG step ops.toList st h := by
  rw [List.range_eq_range']
  have := runL_range (step := step) (ops := ops) ops.toList 0 st h (by simp)
  simpa using this

theorem bubble (W : Swapper lim step pr) {m : Nat} {T2 : List Nat} {r : St × Hp} : ∀ (T1 : List Nat) (st : St) (h : Hp), lim ≤ h.nx →
    (∀ i ∈ T1, ∀ a b, ops[i]? = some a → ops[m]? = some b → pr i m a b = true) →
    runL step ops (T1 ++ m :: T2) st h = some r → runL step ops (m :: (T1 ++ T2)) st h = some r := by
  intro T1
  induction T1 with
  | nil => intro st h _ _ hr; exact hr
  | cons i T1 ih =>
    intro st h hl hp hr
    have hp' : ∀ i ∈ T1, ∀ a b, ops[i]? = some a → ops[m]? = some b → pr i m a b = true := fun i hi => hp i (List.mem_cons_of_mem _ hi)
    simp only [List.cons_append, runL] at hr ⊢
    cases hi : ops[i]? with
    | none =>
      rw [hi] at hr
      have := ih st h hl hp' hr
      simpa only [runL] using this
    | some a =>
      rw [hi] at hr
      obtain ⟨⟨st1, h1⟩, e1, hr⟩ := Option.bind_eq_some_iff.1 hr
      have hn := W.nx e1
      have h2 := ih st1 h1 (Nat.le_trans hl hn) hp' hr
      simp only [runL] at h2
      cases hmm : ops[m]? with
      | none =>
        rw [hmm] at h2
        simp only [e1]
        exact h2
      | some b =>
        rw [hmm] at h2
        obtain ⟨⟨st2, h3⟩, e2, h4⟩ := Option.bind_eq_some_iff.1 h2
        obtain ⟨s', g', f1, f2⟩ := W.swap (hp i List.mem_cons_self a b hi hmm) hl e1 e2
        simp only [f1, Option.bind_some, f2]
        exact h4

/-- Whatever stands in an order that keeps what must be kept. -/
theorem perm_run (W : Swapper lim step pr) {bf : Nat → Nat → Bool} (hpair : ∀ i m, i < m → m < ops.size → bf m i = true ∨ ∀ a b, ops[i]? = some a → ops[m]? = some b → pr i m a b = true) {r : St × Hp} :
    ∀ (L T : List Nat) (st : St) (h : Hp), lim ≤ h.nx → L.Perm T → T.Pairwise (· < ·) → (∀ i ∈ T, i < ops.size) → (∀ A m B, L = A ++ m :: B → ∀ i ∈ B, bf m i = false) →
      runL step ops T st h = some r → runL step ops L st h = some r := by
  intro L
  induction L with
  | nil =>
    intro T st h _ hp _ _ _ hr
    have : T = [] := by simpa using hp.length_eq.symm
    subst this
    exact hr
  | cons m L ih =>
    intro T st h hl hp hs hlt hres hr
    have hmT : m ∈ T := hp.subset List.mem_cons_self
    obtain ⟨T1, T2, rfl⟩ := List.append_of_mem hmT
    have hp' : L.Perm (T1 ++ T2) := (List.perm_cons m).1 (hp.trans List.perm_middle)
    have hs2 := List.pairwise_append.1 hs
    have h1 : ∀ i ∈ T1, i < m := fun i hi => hs2.2.2 i hi m List.mem_cons_self
    have hb := bubble W (m := m) (T2 := T2) T1 st h hl (by
      intro i hi a b ha hb
      have him := h1 i hi
      rcases hpair i m him (hlt m hmT) with hf | hf
      · have hiL : i ∈ L := hp'.symm.subset (List.mem_append_left _ hi)
        have := hres [] m L rfl i hiL
        rw [this] at hf; cases hf
      · exact hf a b ha hb) hr
    simp only [runL] at hb ⊢
    have hsort : (T1 ++ T2).Pairwise (· < ·) := by
      refine hs.sublist ?_
      exact List.Sublist.append (List.Sublist.refl _) (List.sublist_cons_self _ _)
    have hlt' : ∀ i ∈ T1 ++ T2, i < ops.size := fun i hi => hlt i (by
      rcases List.mem_append.1 hi with h | h
      · exact List.mem_append_left _ h
      · exact List.mem_append_right _ (List.mem_cons_of_mem _ h))
    have hres' : ∀ A m' B, L = A ++ m' :: B → ∀ i ∈ B, bf m' i = false := fun A m' B e => hres (m :: A) m' B (by rw [e]; rfl)
    cases hmm : ops[m]? with
    | none =>
      rw [hmm] at hb
      exact ih _ st h hl hp' hsort hlt' hres' hb
    | some b =>
      rw [hmm] at hb
      obtain ⟨⟨st1, h1'⟩, e1, hb⟩ := Option.bind_eq_some_iff.1 hb
      dsimp only at hb ⊢
      rw [e1]
      exact ih _ st1 h1' (Nat.le_trans hl (W.nx e1)) hp' hsort hlt' hres' hb

/-! ### The orders that the model draws -/
theorem binds_any {md : Region.Mode} {e : Edge} (h : Region.binds .any e = true) : Region.binds md e = true := by
  obtain ⟨on, g⟩ := e
  cases g <;> first | rfl | (cases h)

theorem go_ok {md : Region.Mode} (pos : Nat → Nat) (hall : ∀ (i : Nat) o, ops[i]? = some o → ∀ e ∈ o.after, Region.binds md e = true → e.on < ops.size ∧ pos e.on < pos i) : ∀ (fuel t : Nat) (listed : Array Bool) (acc : List Nat),
    listed.size = ops.size → (∀ i, listed.getD i false = true ↔ i ∈ acc) → acc.Nodup → (∀ i ∈ acc, i < ops.size) → acc.length + fuel = ops.size →
    (∀ A m B, acc = A ++ m :: B → ∀ o, ops[m]? = some o → ∀ e ∈ o.after, Region.binds md e = true → e.on ∈ B) →
    (Region.linearise.go md ops fuel t listed acc).Nodup ∧ (∀ i ∈ Region.linearise.go md ops fuel t listed acc, i < ops.size) ∧ (Region.linearise.go md ops fuel t listed acc).length = ops.size ∧
      (∀ A m B, Region.linearise.go md ops fuel t listed acc = A ++ m :: B → ∀ o, ops[m]? = some o → ∀ e ∈ o.after, Region.binds md e = true → e.on ∈ A) := by
  intro fuel
  induction fuel with
  | zero =>
    intro t listed acc h1 h2 h3 h4 h5 h6
    simp only [Region.linearise.go]
    refine ⟨((List.reverse_perm acc).nodup_iff).2 h3, by simpa using h4, by simpa using h5, ?_⟩
    intro A m B e o ho x hx hbx
    have : acc = B.reverse ++ m :: A.reverse := by
      have := congrArg List.reverse e
      simpa using this
    have := h6 _ _ _ this o ho x hx hbx
    simpa using this
  | succ fuel ih =>
    intro t listed acc h1 h2 h3 h4 h5 h6
    simp only [Region.linearise.go]
    -- somebody is ready
    have hready : ((List.range ops.size).filter fun i => !listed.getD i true && ((ops[i]?).map (·.after.all fun e => !Region.binds md e || listed.getD e.on false)).getD false) ≠ [] := by
      have hex : ∃ i, i < ops.size ∧ i ∉ acc := by
        refine Classical.byContradiction fun hno => ?_
        have hsub : List.range ops.size ⊆ acc := by
          intro i hi
          refine Classical.byContradiction fun hn => hno ⟨i, by simpa using hi, hn⟩
        have := (List.nodup_range (n := ops.size)).length_le_of_subset hsub
        simp only [List.length_range] at this
        omega
      have hmin : ∃ i, (i < ops.size ∧ i ∉ acc) ∧ ∀ j, pos j < pos i → ¬ (j < ops.size ∧ j ∉ acc) := by
        obtain ⟨i, hi⟩ := hex
        have : ∀ n i, pos i = n → (i < ops.size ∧ i ∉ acc) → ∃ i, (i < ops.size ∧ i ∉ acc) ∧ ∀ j, pos j < pos i → ¬ (j < ops.size ∧ j ∉ acc) := by
          intro n
          induction n using Nat.strongRecOn with
          | _ n ihh =>
            intro i hn hi
            by_cases hj : ∃ j, pos j < pos i ∧ (j < ops.size ∧ j ∉ acc)
            · obtain ⟨j, hji, hjp⟩ := hj
              exact ihh (pos j) (by omega) j rfl hjp
            · exact ⟨i, hi, fun j hji hjp => hj ⟨j, hji, hjp⟩⟩
        exact this _ i rfl hi
      obtain ⟨i, ⟨hi1, hi2⟩, hi3⟩ := hmin
      refine List.ne_nil_of_mem (a := i) ?_
      rw [List.mem_filter]
      refine ⟨by simpa using hi1, ?_⟩
      have hlf : listed.getD i true = false := by
        have : ¬ listed.getD i false = true := fun h => hi2 ((h2 i).1 h)
        rw [Array.getD_eq_getD_getElem?] at this ⊢
        rw [Array.getElem?_eq_getElem (by omega)] at this ⊢
        simpa using this
      rw [hlf, Array.getElem?_eq_getElem hi1]
      simp only [Bool.not_false, Option.map_some, Option.getD_some, Bool.true_and, Array.all_eq_true_iff_forall_mem]
      intro e he
      cases hb : Region.binds md e with
      | false => rfl
      | true =>
        obtain ⟨hs, hlt⟩ := hall i _ (Array.getElem?_eq_getElem hi1) e he hb
        have : e.on ∈ acc := Classical.byContradiction fun hn => hi3 e.on hlt ⟨hs, hn⟩
        have := (h2 e.on).2 this
        simp [this]
    generalize hrs : ((List.range ops.size).filter fun i => !listed.getD i true && ((ops[i]?).map (·.after.all fun e => !Region.binds md e || listed.getD e.on false)).getD false) = rs at *
    have hpos : 0 < rs.length := List.length_pos_iff.2 hready
    have hlt := Nat.mod_lt t hpos
    rw [List.getElem?_eq_getElem hlt]
    dsimp only
    have hmem : rs[t % rs.length] ∈ rs := List.getElem_mem hlt
    generalize rs[t % rs.length] = i at *
    rw [← hrs, List.mem_filter] at hmem
    obtain ⟨hi1, hi2⟩ := hmem
    have hi1' : i < ops.size := by simpa using hi1
    simp only [Bool.and_eq_true, Bool.not_eq_true'] at hi2
    have hiacc : i ∉ acc := by
      intro hin
      have := (h2 i).2 hin
      have h3 := hi2.1
      rw [Array.getD_eq_getD_getElem?] at this h3
      rw [Array.getElem?_eq_getElem (by omega)] at this h3
      simp only [Option.getD_some] at this h3
      rw [this] at h3; cases h3
    refine ih _ _ (i :: acc) (by simpa using h1) ?_ (List.nodup_cons.2 ⟨hiacc, h3⟩) ?_ (by simp; omega) ?_
    · intro j
      rw [Array.getD_eq_getD_getElem?, Array.getElem?_setIfInBounds]
      by_cases hj : i = j
      · subst hj
        rw [if_pos rfl, if_pos (by omega)]
        simp
      · rw [if_neg hj]
        have := h2 j
        rw [Array.getD_eq_getD_getElem?] at this
        rw [this, List.mem_cons]
        constructor
        · exact .inr
        · rintro (h | h)
          · exact absurd h.symm hj
          · exact h
    · intro j hj
      rcases List.mem_cons.1 hj with rfl | hj
      · exact hi1'
      · exact h4 j hj
    · intro A m B e o ho x hx hb
      cases A with
      | nil =>
        simp only [List.nil_append, List.cons.injEq] at e
        obtain ⟨rfl, rfl⟩ := e
        rw [ho] at hi2
        simp only [Option.map_some, Option.getD_some, Array.all_eq_true_iff_forall_mem] at hi2
        have h7 := hi2.2 x hx
        rw [hb] at h7
        simp only [Bool.not_true, Bool.false_or] at h7
        exact (h2 _).1 h7
      | cons a A =>
        simp only [List.cons_append, List.cons.injEq] at e
        exact h6 A m B e.2 o ho x hx hb

theorem before_step (l : List Oper) : ∀ (acc : Array Nat), ((l.foldl (fun acc o => acc.push (o.after.foldl (fun s e => if Region.binds .any e then s ||| 2 ^ e.on ||| acc.getD e.on 0 else s) 0)) acc).size = acc.size + l.length) ∧
    (∀ i, i < acc.size → (l.foldl (fun acc o => acc.push (o.after.foldl (fun s e => if Region.binds .any e then s ||| 2 ^ e.on ||| acc.getD e.on 0 else s) 0)) acc)[i]? = acc[i]?) := by
  induction l with
  | nil => intro acc; exact ⟨by simp, fun _ _ => rfl⟩
  | cons o l ih =>
    intro acc
    obtain ⟨h1, h2⟩ := ih (acc.push (o.after.foldl (fun s e => if Region.binds .any e then s ||| 2 ^ e.on ||| acc.getD e.on 0 else s) 0))
    refine ⟨by simp only [List.foldl_cons]; rw [h1]; simp; omega, fun i hi => ?_⟩
    simp only [List.foldl_cons]
    rw [h2 i (by simp; omega), Array.getElem?_push, if_neg (by omega)]

theorem fold_bit (acc : Array Nat) (i : Nat) : ∀ (l : List Edge) (s : Nat), (l.foldl (fun s e => if Region.binds .any e then s ||| 2 ^ e.on ||| acc.getD e.on 0 else s) s).testBit i = true → s.testBit i = true ∨ ∃ e ∈ l, Region.binds .any e = true ∧ (i = e.on ∨ (acc.getD e.on 0).testBit i = true) := by
  intro l
  induction l with
  | nil => intro s h; exact .inl h
  | cons e l ih =>
    intro s h
    simp only [List.foldl_cons] at h
    rcases ih _ h with h1 | ⟨x, hx, h1⟩
    · split at h1
      · rename_i hb
        simp only [Nat.testBit_or, Bool.or_eq_true] at h1
        rcases h1 with (h1 | h1) | h1
        · exact .inl h1
        · right
          refine ⟨e, List.mem_cons_self, hb, .inl ?_⟩
          rw [Nat.testBit_two_pow] at h1
          exact (of_decide_eq_true h1).symm
        · exact .inr ⟨e, List.mem_cons_self, hb, .inr h1⟩
      · exact .inl h1
    · exact .inr ⟨x, List.mem_cons_of_mem _ hx, h1⟩

theorem before_bit (hall : ∀ (i : Nat) o, ops[i]? = some o → ∀ e ∈ o.after, Region.binds .any e = true → e.on < i) {m i : Nat} {o : Oper} (ho : ops[m]? = some o) (hb : ((Region.before ops).getD m 0).testBit i = true) :
    ∃ e ∈ o.after, Region.binds .any e = true ∧ (i = e.on ∨ ((Region.before ops).getD e.on 0).testBit i = true) := by
  have hm : m < ops.size := (Array.getElem?_eq_some_iff.1 ho).1
  have hsplit : ops.toList = ops.toList.take m ++ o :: ops.toList.drop (m + 1) := by
    have hlt : m < ops.toList.length := by simpa using hm
    have e : ops.toList[m] = o := by
      have : ops.toList[m]? = some o := by simpa using ho
      exact (List.getElem?_eq_some_iff.1 this).2
    conv => lhs; rw [← List.take_append_drop m ops.toList]
    rw [List.drop_eq_getElem_cons hlt, e]
  let f := fun (acc : Array Nat) (o : Oper) => acc.push (o.after.foldl (fun s e => if Region.binds .any e then s ||| 2 ^ e.on ||| acc.getD e.on 0 else s) 0)
  have hbe : Region.before ops = (ops.toList.drop (m + 1)).foldl f (f ((ops.toList.take m).foldl f #[]) o) := by
    unfold Region.before
    rw [← Array.foldl_toList]
    conv => lhs; rw [hsplit]
    rw [List.foldl_append, List.foldl_cons]
  obtain ⟨s1, s2⟩ := before_step (ops.toList.take m) #[]
  have hsz : ((ops.toList.take m).foldl f #[]).size = m := by
    have := s1
    simp only [List.size_toArray, List.length_nil, Nat.zero_add, List.length_take, Array.length_toList] at this
    have h2 : min m ops.size = m := by omega
    rw [h2] at this
    exact this
  clear s1 s2
  generalize (ops.toList.take m).foldl f #[] = acc at *
  obtain ⟨t1, t2⟩ := before_step (ops.toList.drop (m + 1)) (f acc o)
  have hat : (Region.before ops)[m]? = some (o.after.foldl (fun s e => if Region.binds .any e then s ||| 2 ^ e.on ||| acc.getD e.on 0 else s) 0) := by
    rw [hbe]
    rw [show (List.foldl f (f acc o) (List.drop (m + 1) ops.toList))[m]? = (f acc o)[m]? from t2 m (by simp [f]; omega)]
    simp only [f, Array.getElem?_push]
    rw [if_pos hsz.symm]
  rw [Array.getD_eq_getD_getElem?, hat, Option.getD_some, ← Array.foldl_toList] at hb
  rcases fold_bit acc i _ _ hb with h | ⟨e, he, h⟩
  · simp at h
  · obtain ⟨hba, h⟩ := h
    have he' : e ∈ o.after := by simpa using he
    have hlt := hall m o ho e he' hba
    refine ⟨e, he', hba, ?_⟩
    rcases h with h | h
    · exact .inl h
    · right
      have : (Region.before ops)[e.on]? = acc[e.on]? := by
        rw [hbe]
        rw [show (List.foldl f (f acc o) (List.drop (m + 1) ops.toList))[e.on]? = (f acc o)[e.on]? from t2 e.on (by simp [f]; omega)]
        simp only [f, Array.getElem?_push]
        rw [if_neg (by omega)]
      rw [Array.getD_eq_getD_getElem?, this, ← Array.getD_eq_getD_getElem?]
      exact h

/-- What an order of one kind keeps. -/
def Keeps (ops : Array Oper) (L : List Nat) : Prop := L.Perm (List.range ops.size) ∧ ∀ m A B, L = A ++ m :: B → ∀ i, ((Region.before ops).getD m 0).testBit i = true → i ∈ A
theorem mode_keeps (hany : ∀ (i : Nat) o, ops[i]? = some o → ∀ e ∈ o.after, Region.binds .any e = true → e.on < i)
    {md : Region.Mode} (pos : Nat → Nat) (hall : ∀ (i : Nat) o, ops[i]? = some o → ∀ e ∈ o.after, Region.binds md e = true → e.on < ops.size ∧ pos e.on < pos i) (t : Nat) : Keeps ops (Region.linearise md ops t) := by
  obtain ⟨g1, g2, g3, g4⟩ := go_ok pos hall ops.size t (Array.replicate ops.size false) [] (by simp) (by
    intro i
    rw [Array.getD_eq_getD_getElem?, Array.getElem?_replicate]
    split <;> simp) List.nodup_nil (by simp) (by simp) (by simp)
  have hlin : Region.linearise md ops t = Region.linearise.go md ops ops.size t (Array.replicate ops.size false) [] := rfl
  rw [← hlin] at g1 g2 g3 g4
  -- what must come ahead has come ahead
  have ahead : ∀ m A B, Region.linearise md ops t = A ++ m :: B → ∀ i, ((Region.before ops).getD m 0).testBit i = true → i ∈ A := by
    intro m
    induction m using Nat.strongRecOn with
    | _ m ih =>
      intro A B e i hb
      have hms : m < ops.size := g2 m (by rw [e]; simp)
      obtain ⟨x, hx, hba, h⟩ := before_bit hany (Array.getElem?_eq_getElem hms) hb
      have hxA := g4 A m B e _ (Array.getElem?_eq_getElem hms) x hx (binds_any hba)
      rcases h with rfl | h
      · exact hxA
      · obtain ⟨A1, A2, rfl⟩ := List.append_of_mem hxA
        have := ih x.on (hany m _ (Array.getElem?_eq_getElem hms) x hx hba) A1 (A2 ++ m :: B) (by rw [e]; simp) i h
        exact List.mem_append_left _ this
  refine ⟨?_, fun m A B e i hb => ahead m A B e i hb⟩
  · have hsub : Region.linearise md ops t ⊆ List.range ops.size := fun i hi => by simpa using g2 i hi
    refine (List.perm_ext_iff_of_nodup g1 List.nodup_range).2 fun i => ⟨fun hi => hsub hi, fun hi => ?_⟩
    refine Classical.byContradiction fun hn => ?_
    have h1 : (i :: Region.linearise md ops t).Nodup := List.nodup_cons.2 ⟨hn, g1⟩
    have := h1.length_le_of_subset (show (i :: Region.linearise md ops t) ⊆ List.range ops.size from fun j hj => by
      rcases List.mem_cons.1 hj with rfl | hj
      · exact hi
      · exact hsub hj)
    simp only [List.length_cons, List.length_range, g3] at this
    omega
theorem keeps_run (W : Swapper lim step pr) {st : St} {h : Hp} (hl : lim ≤ h.nx) {r : St × Hp} (hr : runG step ops.toList st h = some r)
    (d3 : ∀ j, j < ops.size → ∀ i, i < j → (((Region.before ops).getD j 0).testBit i || pr i j (ops.getD i default) (ops.getD j default)) = true) {L : List Nat} (hk : Keeps ops L) : runL step ops L st h = some r := by
  obtain ⟨k1, k2⟩ := hk
  have g1 : L.Nodup := (List.Perm.nodup_iff k1).2 List.nodup_range
  refine perm_run W (bf := fun m i => ((Region.before ops).getD m 0).testBit i) ?_ _ (List.range ops.size) st h hl k1 List.pairwise_lt_range (fun i hi => by simpa using hi) ?_ ?_
  · intro i m him hms
    have := d3 m hms i him
    simp only [Bool.or_eq_true] at this
    rcases this with h | h
    · exact .inl h
    · right
      intro a b ha hb
      have e1 : ops.getD i default = a := by rw [Array.getD_eq_getD_getElem?, ha]; rfl
      have e2 : ops.getD m default = b := by rw [Array.getD_eq_getD_getElem?, hb]; rfl
      rw [e1, e2] at h
      exact h
  · intro A m B e i hi
    cases hb : ((Region.before ops).getD m 0).testBit i with
    | false => rfl
    | true =>
      have := k2 m A B e i hb
      rw [e] at g1
      have := (List.nodup_append.1 g1).2.2 i this i (List.mem_cons_of_mem _ hi)
      exact absurd rfl this
  · rw [runL_text]; exact hr
/-- All orders that the model may draw keep what must be kept. -/
theorem draw_keeps (hd : drawG pr ops = true) (mixed : Bool) (t : Nat) : Keeps ops (Region.schedule mixed ops t) := by
  simp only [drawG, Bool.and_eq_true, List.all_eq_true] at hd
  obtain ⟨⟨d1, d2⟩, d3⟩ := hd
  have hzip : ∀ (i : Nat) o, ops[i]? = some o → (o, i) ∈ ops.toList.zipIdx := by
    intro i o ho
    rw [List.mem_zipIdx_iff_getElem?]
    simpa using ho
  have htext : ∀ (i : Nat) o, ops[i]? = some o → ∀ e ∈ o.after, Region.binds .text e = true → e.on < i := by
    intro i o ho e he hb
    have h2 := Array.all_eq_true'.1 (d1 (o, i) (hzip i o ho)) e he
    rw [hb] at h2
    simpa using h2
  have hany : ∀ (i : Nat) o, ops[i]? = some o → ∀ e ∈ o.after, Region.binds .any e = true → e.on < i :=
    fun i o ho e he hb => htext i o ho e he (binds_any hb)
  have lt_size : ∀ (i : Nat) o, ops[i]? = some o → i < ops.size := fun i o ho => (Array.getElem?_eq_some_iff.1 ho).1
  unfold Region.schedule
  split
  · exact mode_keeps hany (md := .any) (fun i => i) (fun i o ho e he hb => ⟨Nat.lt_trans (hany i o ho e he hb) (lt_size i o ho), hany i o ho e he hb⟩) t
  · rename_i hmx
    split
    · exact mode_keeps hany (md := .text) (fun i => i) (fun i o ho e he hb => ⟨Nat.lt_trans (htext i o ho e he hb) (lt_size i o ho), htext i o ho e he hb⟩) _
    · have hdep : Region.departs ops = true := by
        simp only [Bool.or_eq_true, Bool.not_eq_true', not_or] at hmx
        simpa using hmx.2
      rw [hdep] at d2
      simp only [Bool.not_true, Bool.false_or, List.all_eq_true] at d2
      refine mode_keeps hany (md := .gc) (fun i => (Region.linearise .gc ops 0).idxOf i) (fun i o ho e he hb => ?_) _
      have h2 := Array.all_eq_true'.1 (d2 (o, i) (hzip i o ho)) e he
      rw [hb] at h2
      simpa using h2
theorem draw_d3 (hd : drawG pr ops = true) : ∀ j, j < ops.size → ∀ i, i < j → (((Region.before ops).getD j 0).testBit i || pr i j (ops.getD i default) (ops.getD j default)) = true := by
  simp only [drawG, Bool.and_eq_true, List.all_eq_true] at hd
  exact fun j hj i hi => hd.2 j (by simpa using hj) i (by simpa using hi)
theorem draw_lt (hd : drawG pr ops = true) {m i : Nat} (hm : m < ops.size) (hb : ((Region.before ops).getD m 0).testBit i = true) : i < m := by
  simp only [drawG, Bool.and_eq_true, List.all_eq_true] at hd
  obtain ⟨⟨d1, d2⟩, d3⟩ := hd
  have hany : ∀ (i : Nat) o, ops[i]? = some o → ∀ e ∈ o.after, Region.binds .any e = true → e.on < i := by
    intro i o ho e he hb
    have h2 := Array.all_eq_true'.1 (d1 (o, i) (by rw [List.mem_zipIdx_iff_getElem?]; simpa using ho)) e he
    rw [binds_any hb] at h2
    simpa using h2
  induction m using Nat.strongRecOn generalizing i with
  | _ m ih =>
    obtain ⟨e, he, hba, h⟩ := before_bit hany (Array.getElem?_eq_getElem hm) hb
    have h1 := hany m _ (Array.getElem?_eq_getElem hm) e he hba
    rcases h with rfl | h
    · exact h1
    · exact Nat.lt_trans (ih e.on h1 (by omega) h) h1

/-- All orders that the model may draw, at once. -/
theorem draw_run (W : Swapper lim step pr) (hd : drawG pr ops = true) {st : St} {h : Hp} (hl : lim ≤ h.nx) {r : St × Hp} (hr : runG step ops.toList st h = some r) (mixed : Bool) (t : Nat) :
    runL step ops (Region.schedule mixed ops t) st h = some r := keeps_run W hl hr (draw_d3 hd) (draw_keeps hd mixed t)

end
end Go.Am

