/-
  Operations that may change places; every order of a region that is drawn.
-/
import Derived.Test.YtcdpkgmkckfonaaAmOrder
set_option linter.unusedVariables false
set_option linter.unusedSimpArgs false
namespace Go.Am
open Go

section
variable {dp : Bool} {P : Program} {shared : FuncId → Bool} {call : FuncId → List AV → Hp → Option (AV × Hp)} {ops : Array Oper} {lim : Nat}

/-- A call that shares no memory leaves what was there as a reader sees it. -/
def CallNew (shared : FuncId → Bool) (call : FuncId → List AV → Hp → Option (AV × Hp)) : Prop :=
  ∀ g args h r h' lim, shared g = false → lim ≤ h.nx → call g args h = some (r, h') → Agree lim h h' ∧ h.nx ≤ h'.nx

def act (P : Program) (dp : Bool) (call : FuncId → List AV → Hp → Option (AV × Hp)) (ops : Array Oper) (lim : Option Nat) (o : Oper) (st : St) (h : Hp) : Option (AV × Hp) :=
  match o.guard with
  | none => stepK P dp call ops lim o st h
  | some (j, w) => match (ops[j]?).bind (·.dst) with
    | none => none
    | some d => match st d with
      | .bool b => if b = w then stepK P dp call ops lim o st h else some (.skp, h)
      | .skp => some (.skp, h)
      | _ => none

theorem stepO_act (o : Oper) (st : St) (h : Hp) (lim : Option Nat) : stepO P dp call ops lim o st h = (act P dp call ops lim o st h).map fun (v, h') => (updO st o.dst v, h') := by
  unfold stepO act
  cases o.guard with
  | none => rfl
  | some g =>
    obtain ⟨j, w⟩ := g
    dsimp only
    cases (ops[j]?).bind (·.dst) with
    | none => rfl
    | some d =>
      dsimp only
      cases st d <;> try rfl
      rename_i b
      dsimp only
      by_cases hb : b = w
      · rw [if_pos hb, if_pos hb]
      · rw [if_neg hb, if_neg hb]; rfl

theorem mem_opTmps {o : Oper} {t : Nat} (h : Operand.tmp t ∈ o.op.operands) : t ∈ opTmps o := by
  simp only [opTmps, List.mem_filterMap]
  exact ⟨.tmp t, by simpa using h, rfl⟩

theorem ev_congr {st st' : St} {o : Oper} (h : ∀ t ∈ opTmps o, st t = st' t) : ∀ x ∈ o.op.operands, ev st x = ev st' x := by
  intro x hx
  cases x with
  | tmp t => exact h t (mem_opTmps hx)
  | _ => rfl

theorem stepK_congr {o : Oper} {st st' : St} {h : Hp} {lim : Option Nat} (hs : ∀ t ∈ opTmps o, st t = st' t) : stepK P dp call ops lim o st h = stepK P dp call ops lim o st' h := by
  have e := ev_congr hs
  unfold stepK
  rw [opPure_congr e, opRead_congr e, opNew_congr e]
  have hw : opWrite P o.op (ev st) h = opWrite P o.op (ev st') h := by
    cases hop : o.op <;> try rfl
    case store t a v =>
      simp only [opWrite]
      rw [e a (by rw [hop]; simp [Op.operands]), e v (by rw [hop]; simp [Op.operands])]
    case mapUpdate t m k v =>
      simp only [opWrite]
      rw [e m (by rw [hop]; simp [Op.operands]), e k (by rw [hop]; simp [Op.operands]), e v (by rw [hop]; simp [Op.operands])]
    case insert t m k v =>
      simp only [opWrite]
      rw [e m (by rw [hop]; simp [Op.operands]), e k (by rw [hop]; simp [Op.operands]), e v (by rw [hop]; simp [Op.operands])]
    case call c =>
      obtain ⟨callee, args, ts⟩ := c
      have ha : ∀ (i : Nat) (x : Operand), args[i]? = some x → ev st x = ev st' x := fun i x hx => e x (by rw [hop]; simp only [Op.operands, Call.operands]; simp; exact .inr (Array.mem_of_getElem? hx))
      cases callee with
      | value f => rfl
      | invoke r m => rfl
      | builtin b =>
        cases b <;> try rfl
        case append =>
          simp only [opWrite]
          cases h0 : args[0]? with
          | none => cases ts[0]? <;> cases ts[1]? <;> rfl
          | some s => cases h1 : args[1]? with
            | none => cases ts[0]? <;> cases ts[1]? <;> rfl
            | some x =>
              cases ts[0]? with
              | none => rfl
              | some t => cases ts[1]? with
                | none => rfl
                | some t' => simp only [ha 0 s h0, ha 1 x h1]
        case copy =>
          simp only [opWrite]
          cases ts[0]? with
          | none => rfl
          | some t =>
          cases h0 : args[0]? with
          | none => rfl
          | some s => cases h1 : args[1]? with
            | none => simp only [Option.map_some, ha 0 s h0]; cases ev st' s <;> rfl
            | some x => simp only [Option.map_some, ha 0 s h0]; cases ev st' s <;> first | rfl | simp only [ha 1 x h1]
        case clear =>
          simp only [opWrite]
          cases ts[0]? with
          | none => rfl
          | some t =>
          cases h0 : args[0]? with
          | none => rfl
          | some s => simp only [Option.map_some, ha 0 s h0]
  rw [hw]
  cases hop : o.op <;> try rfl
  case call c =>
    obtain ⟨callee, args, ts⟩ := c
    cases callee <;> try rfl
    case value f =>
      dsimp only
      rw [e f (by rw [hop]; simp [Op.operands, Call.operands])]
      have : args.toList.map (ev st) = args.toList.map (ev st') := List.map_congr_left fun x hx => e x (by rw [hop]; simp only [Op.operands, Call.operands]; simp; exact .inr (by simpa using hx))
      rw [this]

theorem act_congr {o : Oper} {st st' : St} {h : Hp} {lim : Option Nat} (hs : ∀ t ∈ readsOf ops o, st t = st' t) : act P dp call ops lim o st h = act P dp call ops lim o st' h := by
  have e := stepK_congr (dp := dp) (P := P) (call := call) (ops := ops) (h := h) (lim := lim) (o := o) (st := st) (st' := st') (fun t ht => hs t (by simp only [readsOf, List.mem_append]; exact .inl ht))
  unfold act
  cases hg : o.guard with
  | none => exact e
  | some g =>
    obtain ⟨j, w⟩ := g
    dsimp only
    cases hd : (ops[j]?).bind (·.dst) with
    | none => rfl
    | some d =>
      dsimp only
      rw [hs d (by simp only [readsOf, List.mem_append, hg, hd]; exact .inr (by simp)), e]

theorem act_upd {o : Oper} {st : St} {h : Hp} {lim : Option Nat} {d : Option Nat} {v : AV} (hd : ∀ t, d = some t → t ∉ readsOf ops o) : act P dp call ops lim o (updO st d v) h = act P dp call ops lim o st h := by
  apply act_congr
  intro t ht
  cases d with
  | none => rfl
  | some d =>
    simp only [updO, upd]
    rw [if_neg]
    rintro rfl
    exact hd t rfl ht

theorem updO_comm {st : St} {d e : Option Nat} {u v : AV} (hne : ∀ t, d = some t → e ≠ some t) : updO (updO st d u) e v = updO (updO st e v) d u := by
  cases d with
  | none => rfl
  | some d =>
    cases e with
    | none => rfl
    | some e =>
      have : e ≠ d := fun h => hne d rfl (by rw [h])
      funext i
      simp only [updO, upd]
      by_cases h1 : i = e
      · subst h1; simp [this]
      · simp [h1]

/-! ### What the kinds mean -/
theorem kind_pure {o : Oper} (hk : kindOf shared o.op = .pure) (st : St) (h : Hp) (lim : Option Nat) : stepK P dp call ops lim o st h = (opPure P o.op (ev st)).map fun v => (v, h) := by
  unfold stepK
  cases hop : o.op <;> rw [hop] at hk <;> (try (simp [kindOf] at hk; done)) <;> try (cases opPure P _ (ev st) <;> rfl)
  case call c =>
    obtain ⟨callee, args, ts⟩ := c
    cases callee with
    | value f => cases f <;> simp [kindOf] at hk; split at hk <;> cases hk
    | invoke r m => simp [kindOf] at hk
    | builtin b => cases b <;> (try (simp [kindOf] at hk; done)) <;> (cases opPure P _ (ev st) <;> rfl)

theorem kind_read {o : Oper} (hk : kindOf shared o.op = .read) (st : St) (h : Hp) (lim : Option Nat) : stepK P dp call ops lim o st h = ((opPure P o.op (ev st)).or (opRead P o.op (ev st) h lim)).map fun v => (v, h) := by
  unfold stepK
  cases hop : o.op <;> rw [hop] at hk <;> (try (simp [kindOf] at hk; done))
  case load t p => cases opPure P (.load t p) (ev st) with
    | some v => rfl
    | none => cases opRead P (.load t p) (ev st) h lim <;> rfl
  case slice t x lo hi mx => cases opPure P (.slice t x lo hi mx) (ev st) with
    | some v => rfl
    | none => cases opRead P (.slice t x lo hi mx) (ev st) h lim <;> rfl
  case lookup t m k ok => cases opPure P (.lookup t m k ok) (ev st) with
    | some v => rfl
    | none => cases opRead P (.lookup t m k ok) (ev st) h lim <;> rfl
  case call c =>
    obtain ⟨callee, args, ts⟩ := c
    cases callee with
    | value f => cases f <;> simp [kindOf] at hk; split at hk <;> cases hk
    | invoke r m => simp [kindOf] at hk
    | builtin b =>
      cases b <;> (try (simp [kindOf] at hk; done))
      case len => cases opPure P (.call { callee := .builtin .len, args := args, argTypes := ts }) (ev st) with
        | some v => rfl
        | none => cases opRead P (.call { callee := .builtin .len, args := args, argTypes := ts }) (ev st) h lim <;> rfl

theorem stepK_new (hc : CallNew shared call) {o : Oper} (hk : kindOf shared o.op = .new) {st : St} {h h' : Hp} {v : AV} {lim : Option Nat} {l : Nat} (hl : l ≤ h.nx) (hs : stepK P dp call ops lim o st h = some (v, h')) : Agree l h h' ∧ h.nx ≤ h'.nx := by
  unfold stepK at hs
  split at hs
  · cases hs; exact ⟨Agree.refl _ _, Nat.le_refl _⟩
  · split at hs
    · cases hs; exact ⟨Agree.refl _ _, Nat.le_refl _⟩
    · split at hs
      · rename_i r hr
        cases hs
        exact opNew_agree hl hr
      · cases hop : o.op <;> rw [hop] at hk <;> (try (simp [kindOf] at hk; done))
        case call c =>
          rw [hop] at hs
          obtain ⟨callee, args, ts⟩ := c
          cases callee with
          | value f =>
            cases f <;> (try (simp [kindOf] at hk; done))
            case func g =>
              simp only [kindOf] at hk
              have hg : shared g = false := by
                cases hsg : shared g with
                | false => rfl
                | true => rw [hsg] at hk; cases hk
              simp only [opWrite, ev] at hs
              exact hc _ _ _ _ _ _ hg hl hs
          | invoke r m => simp [kindOf] at hk
          | builtin b => cases b <;> simp [kindOf] at hk
        all_goals (rw [hop] at hs; simp [opWrite] at hs)

theorem alike.symm {a b : Option Blk} (h : alike a b) : alike b a := by
  cases a with
  | none => cases b with
    | none => trivial
    | some b => cases b <;> exact h.elim
  | some a => cases b with
    | none => cases a <;> exact h.elim
    | some b => cases a <;> cases b <;> simp_all [alike]
theorem Agree.symm {l : Nat} {a b : Hp} (h : Agree l a b) : Agree l b a := fun id hid => (h id hid).symm

theorem act_pure {o : Oper} (hk : kindOf shared o.op = .pure) {st : St} {h h1 : Hp} {v : AV} {lim : Option Nat} (ha : act P dp call ops lim o st h = some (v, h1)) : h1 = h ∧ ∀ h2, act P dp call ops lim o st h2 = some (v, h2) := by
  unfold act at ha ⊢
  have key : ∀ {h h1 : Hp} {v : AV}, stepK P dp call ops lim o st h = some (v, h1) → h1 = h ∧ ∀ h2, stepK P dp call ops lim o st h2 = some (v, h2) := by
    intro h h1 v hs
    rw [kind_pure hk] at hs
    obtain ⟨u, hu, e⟩ := Option.map_eq_some_iff.1 hs
    cases e
    refine ⟨rfl, fun h2 => ?_⟩
    rw [kind_pure hk, hu]; rfl
  cases hg : o.guard with
  | none => rw [hg] at ha; exact key ha
  | some g =>
    obtain ⟨j, w⟩ := g
    rw [hg] at ha
    dsimp only at ha ⊢
    cases hd : (ops[j]?).bind (·.dst) with
    | none => rw [hd] at ha; cases ha
    | some d =>
      rw [hd] at ha
      dsimp only at ha ⊢
      cases hst : st d <;> rw [hst] at ha <;> (try (cases ha; done))
      case bool b =>
        dsimp only at ha ⊢
        by_cases hb : b = w
        · rw [if_pos hb] at ha
          obtain ⟨e, f⟩ := key ha
          exact ⟨e, fun h2 => by rw [if_pos hb]; exact f h2⟩
        · rw [if_neg hb] at ha
          cases ha
          exact ⟨rfl, fun h2 => by rw [if_neg hb]⟩
      case skp => cases ha; exact ⟨rfl, fun h2 => rfl⟩

theorem act_read {o : Oper} (hk : kindOf shared o.op = .read) {st : St} {h h1 : Hp} {v : AV} {lim : Nat} (ha : act P dp call ops (some lim) o st h = some (v, h1)) : h1 = h ∧ ∀ h2, Agree lim h h2 → act P dp call ops (some lim) o st h2 = some (v, h2) := by
  unfold act at ha ⊢
  have key : ∀ {h h1 : Hp} {v : AV}, stepK P dp call ops (some lim) o st h = some (v, h1) → h1 = h ∧ ∀ h2, Agree lim h h2 → stepK P dp call ops (some lim) o st h2 = some (v, h2) := by
    intro h h1 v hs
    rw [kind_read hk] at hs
    obtain ⟨u, hu, e⟩ := Option.map_eq_some_iff.1 hs
    cases e
    refine ⟨rfl, fun h2 hag => ?_⟩
    rw [kind_read hk, ← opRead_agree hag, hu]; rfl
  cases hg : o.guard with
  | none => rw [hg] at ha; exact key ha
  | some g =>
    obtain ⟨j, w⟩ := g
    rw [hg] at ha
    dsimp only at ha ⊢
    cases hd : (ops[j]?).bind (·.dst) with
    | none => rw [hd] at ha; cases ha
    | some d =>
      rw [hd] at ha
      dsimp only at ha ⊢
      cases hst : st d <;> rw [hst] at ha <;> (try (cases ha; done))
      case bool b =>
        dsimp only at ha ⊢
        by_cases hb : b = w
        · rw [if_pos hb] at ha
          obtain ⟨e, f⟩ := key ha
          exact ⟨e, fun h2 hag => by rw [if_pos hb]; exact f h2 hag⟩
        · rw [if_neg hb] at ha
          cases ha
          exact ⟨rfl, fun h2 _ => by rw [if_neg hb]⟩
      case skp => cases ha; exact ⟨rfl, fun h2 _ => rfl⟩

theorem act_new (hc : CallNew shared call) {o : Oper} (hk : kindOf shared o.op = .new) {st : St} {h h1 : Hp} {v : AV} {lim : Option Nat} {l : Nat} (hl : l ≤ h.nx) (ha : act P dp call ops lim o st h = some (v, h1)) : Agree l h h1 ∧ h.nx ≤ h1.nx := by
  unfold act at ha
  cases hg : o.guard with
  | none => rw [hg] at ha; exact stepK_new hc hk hl ha
  | some g =>
    obtain ⟨j, w⟩ := g
    rw [hg] at ha
    dsimp only at ha
    cases hd : (ops[j]?).bind (·.dst) with
    | none => rw [hd] at ha; cases ha
    | some d =>
      rw [hd] at ha
      dsimp only at ha
      cases hst : st d <;> rw [hst] at ha <;> (try (cases ha; done))
      case bool b =>
        dsimp only at ha
        by_cases hb : b = w
        · rw [if_pos hb] at ha; exact stepK_new hc hk hl ha
        · rw [if_neg hb] at ha; cases ha; exact ⟨Agree.refl _ _, Nat.le_refl _⟩
      case skp => cases ha; exact ⟨Agree.refl _ _, Nat.le_refl _⟩

/-- Two operations that may change places do. -/
theorem swap (hc : CallNew shared call) {i j : Nat} {a b : Oper} (hp : pairOk shared ops i j a b = true) {st st1 st2 : St} {h h1 h2 : Hp} (hl : lim ≤ h.nx)
    (e1 : stepO P dp call ops (some lim) a st h = some (st1, h1)) (e2 : stepO P dp call ops (some lim) b st1 h1 = some (st2, h2)) :
    ∃ st1' h1', stepO P dp call ops (some lim) b st h = some (st1', h1') ∧ stepO P dp call ops (some lim) a st1' h1' = some (st2, h2) := by
  simp only [pairOk, Bool.and_eq_true] at hp
  obtain ⟨⟨hk, h5⟩, h6⟩ := hp
  have hda : ∀ t, a.dst = some t → t ∉ readsOf ops b ∧ b.dst ≠ some t := by
    intro t ht
    rw [ht] at h5
    simp only [Bool.and_eq_true, Bool.not_eq_true', decide_eq_true_eq] at h5
    refine ⟨fun hm => ?_, h5.2⟩
    have : (readsOf ops b).contains t = true := by simpa using hm
    rw [h5.1] at this; cases this
  have hdb : ∀ t, b.dst = some t → t ∉ readsOf ops a := by
    intro t ht hm
    rw [ht] at h6
    simp only [Bool.not_eq_true'] at h6
    have : (readsOf ops a).contains t = true := by simpa using hm
    rw [h6] at this; cases this
  rw [stepO_act] at e1 e2
  obtain ⟨⟨va, g1⟩, A1, E1⟩ := Option.map_eq_some_iff.1 e1
  obtain ⟨⟨vb, g2⟩, B1, E2⟩ := Option.map_eq_some_iff.1 e2
  cases E1
  cases E2
  rw [act_upd (fun t ht => (hda t ht).1)] at B1
  have fin : updO (updO st a.dst va) b.dst vb = updO (updO st b.dst vb) a.dst va := updO_comm fun t ht => (hda t ht).2
  -- in whatever way they are free
  have goal : ∀ hm, act P dp call ops (some lim) b st h = some (vb, hm) → act P dp call ops (some lim) a st hm = some (va, h2) →
      ∃ st1' h1', stepO P dp call ops (some lim) b st h = some (st1', h1') ∧ stepO P dp call ops (some lim) a st1' h1' = some (updO (updO st a.dst va) b.dst vb, h2) := by
    intro hm hb ha
    refine ⟨updO st b.dst vb, hm, by rw [stepO_act, hb]; rfl, ?_⟩
    rw [stepO_act, act_upd hdb, ha, fin]; rfl
  cases hka : kindOf shared a.op with
  | pure =>
    obtain ⟨rfl, f⟩ := act_pure hka A1
    exact goal h2 B1 (f h2)
  | read =>
    obtain ⟨rfl, f⟩ := act_read hka A1
    cases hkb : kindOf shared b.op with
    | pure =>
      obtain ⟨rfl, g⟩ := act_pure hkb B1
      exact goal _ B1 A1
    | read =>
      obtain ⟨rfl, g⟩ := act_read hkb B1
      exact goal _ B1 A1
    | new => exact goal h2 B1 (f h2 (act_new hc hkb hl B1).1)
    | write => rw [hka, hkb] at hk; cases hk
    | call => rw [hka, hkb] at hk; cases hk
  | new =>
    cases hkb : kindOf shared b.op with
    | pure =>
      obtain ⟨rfl, g⟩ := act_pure hkb B1
      exact goal h (g h) A1
    | read =>
      obtain ⟨rfl, g⟩ := act_read hkb B1
      exact goal h (g h (act_new hc hka hl A1).1.symm) A1
    | new => rw [hka, hkb] at hk; cases hk
    | write => rw [hka, hkb] at hk; cases hk
    | call => rw [hka, hkb] at hk; cases hk
  | write =>
    cases hkb : kindOf shared b.op with
    | pure =>
      obtain ⟨rfl, g⟩ := act_pure hkb B1
      exact goal h (g h) A1
    | read => rw [hka, hkb] at hk; cases hk
    | new => rw [hka, hkb] at hk; cases hk
    | write => rw [hka, hkb] at hk; cases hk
    | call => rw [hka, hkb] at hk; cases hk
  | call =>
    cases hkb : kindOf shared b.op with
    | pure =>
      obtain ⟨rfl, g⟩ := act_pure hkb B1
      exact goal h (g h) A1
    | read => rw [hka, hkb] at hk; cases hk
    | new => rw [hka, hkb] at hk; cases hk
    | write => rw [hka, hkb] at hk; cases hk
    | call => rw [hka, hkb] at hk; cases hk

end
end Go.Am

