/-
  A region whose order is drawn: every order comes to the same.
-/
import Derived.Test.YtcdpkgmkckfonaaAmRun
set_option linter.unusedVariables false
set_option linter.unusedSimpArgs false
namespace Go.Am
open Go

section
variable {dp : Bool} {P : Program} {cfg : Cfg} {ρ ρ' : Operand → AV} {h h' : Hp}

/-! ### An operation looks at its operands alone -/
theorem opPure_congr {o : Op} (hρ : ∀ x ∈ o.operands, ρ x = ρ' x) : opPure P o ρ = opPure P o ρ' := by
  cases o <;> try rfl
  case move x => simp only [opPure]; rw [hρ x (by simp [Op.operands])]
  case assign x => simp only [opPure]; rw [hρ x (by simp [Op.operands])]
  case pick a b c => simp only [opPure]; rw [hρ a (by simp [Op.operands]), hρ b (by simp [Op.operands]), hρ c (by simp [Op.operands])]
  case build t parts =>
    have h1 : ∀ p ∈ parts.toList, ρ p.2 = ρ' p.2 := by
      intro p hp
      exact hρ p.2 (by simp only [Op.operands]; simp; exact ⟨p.1, by simpa using hp⟩)
    have h2 : (parts.toList.map fun p => (p.1, ρ p.2)) = (parts.toList.map fun p => (p.1, ρ' p.2)) := List.map_congr_left fun p hp => by rw [h1 p hp]
    have h3 : (parts.toList.all fun p => (ρ p.2).cells.all AV.isCell) = (parts.toList.all fun p => (ρ' p.2).cells.all AV.isCell) := by
      rw [Bool.eq_iff_iff]
      simp only [List.all_eq_true]
      constructor <;> intro hh p hp <;> have := hh p hp
      · rw [h1 p hp] at this; exact this
      · rw [← h1 p hp] at this; exact this
    simp only [opPure]
    rw [h2, h3]
  case binOp op t x y t' => simp only [opPure]; rw [hρ x (by simp [Op.operands]), hρ y (by simp [Op.operands])]
  case unOp op t x => simp only [opPure]; rw [hρ x (by simp [Op.operands])]
  case convert s d x => simp only [opPure]; rw [hρ x (by simp [Op.operands])]
  case nilCheck x => simp only [opPure]; rw [hρ x (by simp [Op.operands])]
  case makeFunc f first caps =>
    cases f with
    | func f =>
      simp only [opPure]
      have : caps.toList.map ρ = caps.toList.map ρ' := List.map_congr_left fun x hx => hρ x (by simp only [Op.operands]; simp; exact .inr (by simpa using hx))
      rw [this]
    | _ => rfl
  case slice t x lo hi mx =>
    cases mx with
    | some m => rfl
    | none =>
      have hlo : ∀ y, lo = some y → ρ y = ρ' y := fun y hy => hρ y (by subst hy; simp [Op.operands])
      have hhi : ∀ y, hi = some y → ρ y = ρ' y := fun y hy => hρ y (by subst hy; simp [Op.operands])
      have e1 : ∀ n, loA ρ lo n = loA ρ' lo n := fun n => by cases lo with | none => rfl | some y => simp only [loA]; rw [hlo y rfl]
      have e2 : ∀ n, hiA ρ hi n = hiA ρ' hi n := fun n => by cases hi with | none => rfl | some y => simp only [hiA]; rw [hhi y rfl]
      simp only [opPure, e1, e2]
      rw [hρ x (by simp [Op.operands])]
  case fieldAddr s x f => simp only [opPure]; rw [hρ x (by simp [Op.operands])]
  case field s x f => simp only [opPure]; rw [hρ x (by simp [Op.operands])]
  case indexAddr t x i => simp only [opPure]; rw [hρ x (by simp [Op.operands]), hρ i (by simp [Op.operands])]
  case index t x i => simp only [opPure]; rw [hρ x (by simp [Op.operands]), hρ i (by simp [Op.operands])]
  case extract x i => simp only [opPure]; rw [hρ x (by simp [Op.operands])]
  case call c =>
    obtain ⟨callee, args, ts⟩ := c
    have ha : ∀ x ∈ args.toList, ρ x = ρ' x := fun x hx => hρ x (by simp only [Op.operands, Call.operands]; simp; exact .inr (by simpa using hx))
    cases callee with
    | value f => rfl
    | invoke r m => rfl
    | builtin b =>
      have hm : args.toList.map ρ = args.toList.map ρ' := List.map_congr_left ha
      cases b <;> try rfl
      case len =>
        simp only [opPure]
        cases hx : args[0]? with
        | none => cases ts[0]?.bind P.underlying with
          | none => rfl
          | some d => cases d <;> rfl
        | some x =>
          have : ρ x = ρ' x := ha x (by have := Array.mem_of_getElem? hx; simpa using this)
          cases ts[0]?.bind P.underlying with
          | none => rfl
          | some d => cases d <;> first | rfl | (simp only; rw [this])
      case min => simp only [opPure]; rw [hm]
      case max => simp only [opPure]; rw [hm]

theorem opRead_congr {o : Op} {lim : Option Nat} (hρ : ∀ x ∈ o.operands, ρ x = ρ' x) : opRead P o ρ h lim = opRead P o ρ' h lim := by
  cases o <;> try rfl
  case load t p => simp only [opRead]; rw [hρ p (by simp [Op.operands])]
  case slice t x lo hi mx =>
    cases mx with
    | some m => rfl
    | none =>
      have hlo : ∀ y, lo = some y → ρ y = ρ' y := fun y hy => hρ y (by subst hy; simp [Op.operands])
      have hhi : ∀ y, hi = some y → ρ y = ρ' y := fun y hy => hρ y (by subst hy; simp [Op.operands])
      have e1 : ∀ n, loA ρ lo n = loA ρ' lo n := fun n => by cases lo with | none => rfl | some y => simp only [loA]; rw [hlo y rfl]
      have e2 : ∀ n, hiA ρ hi n = hiA ρ' hi n := fun n => by cases hi with | none => rfl | some y => simp only [hiA]; rw [hhi y rfl]
      simp only [opRead, e1, e2]
      rw [hρ x (by simp [Op.operands])]
  case lookup t m k ok => simp only [opRead]; rw [hρ m (by simp [Op.operands]), hρ k (by simp [Op.operands])]
  case call c =>
    obtain ⟨callee, args, ts⟩ := c
    have ha : ∀ x ∈ args.toList, ρ x = ρ' x := fun x hx => hρ x (by simp only [Op.operands, Call.operands]; simp; exact .inr (by simpa using hx))
    cases callee with
    | value f => rfl
    | invoke r m => rfl
    | builtin b =>
      cases b <;> try rfl
      case len =>
        simp only [opRead]
        cases hx : args[0]? with
        | none => rfl
        | some x =>
          have : ρ x = ρ' x := ha x (by have := Array.mem_of_getElem? hx; simpa using this)
          simp only [Option.map_some, this]

theorem opNew_congr {o : Op} (hρ : ∀ x ∈ o.operands, ρ x = ρ' x) : opNew P dp o ρ h = opNew P dp o ρ' h := by
  cases o <;> try rfl
  case box e x => simp only [opNew]; rw [hρ x (by simp [Op.operands])]
  case makeMap t r => cases r <;> rfl
  case makeSlice t l c => simp only [opNew]; rw [hρ l (by simp [Op.operands]), hρ c (by simp [Op.operands])]
  case buildSlice t len parts =>
    have h1 : ∀ p ∈ parts.toList, ρ p.2 = ρ' p.2 := by
      intro p hp
      exact hρ p.2 (by simp only [Op.operands]; simp; exact ⟨p.1, by simpa using hp⟩)
    have h2 : (parts.toList.map fun p => ρ p.2) = (parts.toList.map fun p => ρ' p.2) := List.map_congr_left h1
    simp only [opNew]
    rw [h2]

/-! ### Memory that a reader takes for the same -/
def alike : Option Blk → Option Blk → Prop
  | some (.cells _ r f), some (.cells _ r' f') => r = r' ∧ f = f'
  | some (.mp _ es), some (.mp _ es') => es = es'
  | some .it, some .it => True
  | none, none => True
  | _, _ => False
def Agree (lim : Nat) (h h' : Hp) : Prop := ∀ id, id < lim → alike (h.bl id) (h'.bl id)

theorem alike.refl (b : Option Blk) : alike b b := by
  cases b with
  | none => trivial
  | some b => cases b <;> simp [alike]
theorem alike.trans {a b c : Option Blk} (h1 : alike a b) (h2 : alike b c) : alike a c := by
  cases a with
  | none => cases b with
    | none => exact h2
    | some b => cases b <;> exact h1.elim
  | some a =>
    cases b with
    | none => cases a <;> exact h1.elim
    | some b =>
      cases c with
      | none => cases b <;> exact h2.elim
      | some c =>
        cases a <;> cases b <;> cases c <;> simp_all [alike]

theorem Agree.refl (lim : Nat) (h : Hp) : Agree lim h h := fun _ _ => alike.refl _
theorem Agree.trans {lim : Nat} {a b c : Hp} (h1 : Agree lim a b) (h2 : Agree lim b c) : Agree lim a c := fun id hid => (h1 id hid).trans (h2 id hid)
theorem Agree.alloc {lim : Nat} {h : Hp} (hl : lim ≤ h.nx) (b : Blk) : Agree lim h (h.alloc b) := by
  intro id hid
  simp only [Hp.alloc]
  rw [if_neg (by omega)]
  exact alike.refl _
theorem Agree.freeze {lim id : Nat} {h : Hp} {fz row : Bool} {flat : List AV} (hb : h.bl id = some (.cells fz row flat)) : Agree lim h (h.put id (some (.cells true row flat))) := by
  intro j hj
  simp only [Hp.put]
  by_cases he : j = id
  · subst he; simp only [if_true]; rw [hb]; exact ⟨rfl, rfl⟩
  · rw [if_neg he]; exact alike.refl _

theorem Agree.freezeM {lim id : Nat} {h : Hp} {fz : Bool} {es : List (Int × AV)} (hb : h.bl id = some (.mp fz es)) : Agree lim h (h.put id (some (.mp true es))) := by
  intro j hj
  simp only [Hp.put]
  by_cases he : j = id
  · subst he; simp only [if_true]; rw [hb]; exact rfl
  · rw [if_neg he]; exact alike.refl _

theorem rd_agree {lim : Nat} (ha : Agree lim h h') (id : Nat) : rd h (some lim) id = rd h' (some lim) id := by
  simp only [rd, lims]
  by_cases hid : id < lim
  · have := ha id hid
    revert this
    cases h.bl id with
    | none => cases h'.bl id with
      | none => intro _; rfl
      | some b => cases b <;> intro hh <;> first | rfl | exact hh.elim
    | some a => cases h'.bl id with
      | none => cases a <;> intro hh <;> first | rfl | exact hh.elim
      | some b =>
        cases a <;> cases b <;> intro hh <;> simp_all [alike]
  · have e : decide (id < lim) = false := by simpa using hid
    simp only [e]
    cases h.bl id with
    | none => cases h'.bl id with
      | none => rfl
      | some b => cases b <;> rfl
    | some a => cases a <;> cases h'.bl id with
      | none => rfl
      | some b => cases b <;> rfl

theorem opRead_agree {lim : Nat} (ha : Agree lim h h') {o : Op} : opRead P o ρ h (some lim) = opRead P o ρ h' (some lim) := by
  have key : ∀ id, lims (some lim) id = true → alike (h.bl id) (h'.bl id) := fun id hid => ha id (by simpa [lims] using hid)
  cases o <;> try rfl
  case load t p =>
    simp only [opRead]
    split <;> try rfl
    rw [rd_agree ha]
  case slice t x lo hi mx =>
    cases mx with
    | some m => rfl
    | none =>
      simp only [opRead]
      split <;> try rfl
      rename_i n e id off hu hx
      congr 1; funext b; congr 1; funext a
      cases isz P e with
      | none => rfl
      | some sz =>
        cases hl : lims (some lim) id with
        | true =>
          have := key id hl
          revert this
          cases h.bl id with
          | none => cases h'.bl id with
            | none => intro _; rfl
            | some b => cases b <;> intro hh <;> first | rfl | exact hh.elim
          | some a => cases h'.bl id with
            | none => cases a <;> intro hh <;> first | rfl | exact hh.elim
            | some b =>
              cases a with
              | cells fz r f => cases b with
                | cells fz' r' f' =>
                  rintro ⟨rfl, rfl⟩
                  cases r <;> rfl
                | mp es => intro hh; exact hh.elim
                | it => intro hh; exact hh.elim
              | mp es => cases b with
                | cells fz' r' f' => intro hh; exact hh.elim
                | mp es' => intro _; rfl
                | it => intro hh; exact hh.elim
              | it => cases b with
                | cells fz' r' f' => intro hh; exact hh.elim
                | mp es' => intro hh; exact hh.elim
                | it => intro _; rfl
        | false =>
          cases h.bl id with
          | none => cases h'.bl id with
            | none => rfl
            | some b => cases b with
              | cells fz r f => cases r <;> simp
              | mp es => rfl
              | it => rfl
          | some a => cases a with
            | cells fz r f => cases r <;> cases h'.bl id with
              | none => simp
              | some b => cases b with
                | cells fz r f => cases r <;> simp
                | mp es => simp
                | it => simp
            | mp es => cases h'.bl id with
              | none => rfl
              | some b => cases b with
                | cells fz r f => cases r <;> simp
                | mp es => rfl
                | it => rfl
            | it => cases h'.bl id with
              | none => rfl
              | some b => cases b with
                | cells fz r f => cases r <;> simp
                | mp es => rfl
                | it => rfl
  case lookup t m k ok =>
    simp only [opRead]
    split <;> try rfl
    rename_i kt et id n hu hm hk
    cases izero P et with
    | none => cases h.bl id with
      | none => cases h'.bl id with
        | none => rfl
        | some b => cases b <;> rfl
      | some a => cases a <;> cases h'.bl id with
        | none => rfl
        | some b => cases b <;> rfl
    | some z =>
      cases hl : lims (some lim) id with
      | true =>
        have := key id hl
        revert this
        cases h.bl id with
        | none => cases h'.bl id with
          | none => intro _; rfl
          | some b => cases b <;> intro hh <;> first | rfl | exact hh.elim
        | some a => cases h'.bl id with
          | none => cases a <;> intro hh <;> first | rfl | exact hh.elim
          | some b => cases a <;> cases b <;> intro hh <;> first | exact hh.elim | (cases hh; rfl) | (cases hh; cases P.underlying kt with | none => rfl | some d => cases d <;> rfl) | (obtain ⟨rfl, rfl⟩ := hh; rfl)
      | false =>
        cases P.underlying kt with
        | none => cases h.bl id with
          | none => cases h'.bl id with
            | none => rfl
            | some b => cases b <;> rfl
          | some a => cases a <;> cases h'.bl id with
            | none => rfl
            | some b => cases b <;> rfl
        | some d =>
          cases d <;> (cases h.bl id with
            | none => cases h'.bl id with
              | none => rfl
              | some b => cases b <;> simp
            | some a => cases a <;> cases h'.bl id with
              | none => simp
              | some b => cases b <;> simp)
  case call c =>
    obtain ⟨callee, args, ts⟩ := c
    cases callee with
    | value f => rfl
    | invoke r m => rfl
    | builtin b =>
      cases b <;> try rfl
      case len =>
        simp only [opRead]
        split <;> try rfl
        rename_i kt et id hu hx
        cases hl : lims (some lim) id with
        | true =>
          have := key id hl
          revert this
          cases h.bl id with
          | none => cases h'.bl id with
            | none => intro _; rfl
            | some b => cases b <;> intro hh <;> first | rfl | exact hh.elim
          | some a => cases h'.bl id with
            | none => cases a <;> intro hh <;> first | rfl | exact hh.elim
            | some b => cases a <;> cases b <;> intro hh <;> first | exact hh.elim | (cases hh; rfl) | (obtain ⟨rfl, rfl⟩ := hh; rfl)
        | false =>
          cases h.bl id with
          | none => cases h'.bl id with
            | none => rfl
            | some b => cases b <;> simp
          | some a => cases a <;> cases h'.bl id with
            | none => simp
            | some b => cases b <;> simp

theorem sealV0_agree {lim : Nat} {v v' : AV} (hs : sealV0 h v = some (v', h')) : Agree lim h h' ∧ h'.nx = h.nx := by
  unfold sealV0 at hs
  split at hs
  · cases hs; exact ⟨Agree.refl _ _, rfl⟩
  · split at hs
    · split at hs
      · rename_i hb
        split at hs
        · cases hs; exact ⟨Agree.freeze hb, rfl⟩
        · cases hs
      · cases hs
    · split at hs
      · rename_i hb
        split at hs
        · cases hs; exact ⟨Agree.freeze hb, rfl⟩
        · cases hs
      · cases hs
    · split at hs
      · rename_i hb
        split at hs
        · cases hs; exact ⟨Agree.freezeM hb, rfl⟩
        · cases hs
      · cases hs
    · cases hs
theorem sealCells0_agree {lim : Nat} : ∀ (vs : List AV) {h h' : Hp} {vs' : List AV}, sealCells0 h vs = some (vs', h') → Agree lim h h' ∧ h'.nx = h.nx := by
  intro vs
  induction vs with
  | nil => intro h h' vs' hs; simp only [sealCells0, Option.some.injEq, Prod.mk.injEq] at hs; obtain ⟨_, rfl⟩ := hs; exact ⟨Agree.refl _ _, rfl⟩
  | cons v vs ih =>
    intro h h' vs' hs
    simp only [sealCells0] at hs
    obtain ⟨⟨v1, h1⟩, e1, hs⟩ := Option.bind_eq_some_iff.1 hs
    obtain ⟨⟨vs1, h2⟩, e2, hs⟩ := Option.map_eq_some_iff.1 hs
    cases hs
    obtain ⟨a1, n1⟩ := sealV0_agree (lim := lim) e1
    obtain ⟨a2, n2⟩ := ih e2
    exact ⟨a1.trans a2, n2.trans n1⟩
theorem sealV_agree {lim : Nat} {v v' : AV} (hs : sealV h v = some (v', h')) : Agree lim h h' ∧ h'.nx = h.nx := by
  unfold sealV at hs
  split at hs
  · split at hs
    · split at hs
      · exact sealV0_agree hs
      · obtain ⟨⟨flat', h1⟩, e1, hs⟩ := Option.bind_eq_some_iff.1 hs
        simp only at hs
        split at hs
        · rename_i hb1
          split at hs
          · cases hs
            obtain ⟨a1, n1⟩ := sealCells0_agree (lim := lim) _ e1
            exact ⟨a1.trans (Agree.freeze hb1), n1⟩
          · cases hs
        · cases hs
    · cases hs
  · exact sealV0_agree hs
theorem sealCells_agree {lim : Nat} : ∀ (vs : List AV) {h h' : Hp} {vs' : List AV}, sealCells h vs = some (vs', h') → Agree lim h h' ∧ h'.nx = h.nx := by
  intro vs
  induction vs with
  | nil => intro h h' vs' hs; simp only [sealCells, Option.some.injEq, Prod.mk.injEq] at hs; obtain ⟨_, rfl⟩ := hs; exact ⟨Agree.refl _ _, rfl⟩
  | cons v vs ih =>
    intro h h' vs' hs
    simp only [sealCells] at hs
    obtain ⟨⟨v1, h1⟩, e1, hs⟩ := Option.bind_eq_some_iff.1 hs
    obtain ⟨⟨vs1, h2⟩, e2, hs⟩ := Option.map_eq_some_iff.1 hs
    cases hs
    obtain ⟨a1, n1⟩ := sealV_agree (lim := lim) e1
    obtain ⟨a2, n2⟩ := ih e2
    exact ⟨a1.trans a2, n2.trans n1⟩
theorem sealA_agree {lim : Nat} {v v' : AV} (hs : sealA h v = some (v', h')) : Agree lim h h' ∧ h'.nx = h.nx := by
  unfold sealA at hs
  split at hs
  · split at hs
    · cases hs; exact ⟨Agree.refl _ _, rfl⟩
    · obtain ⟨⟨cs, h1⟩, e1, hs⟩ := Option.map_eq_some_iff.1 hs
      cases hs
      exact sealCells_agree _ e1
  · split at hs
    · cases hs; exact ⟨Agree.refl _ _, rfl⟩
    · obtain ⟨⟨cs, h1⟩, e1, hs⟩ := Option.map_eq_some_iff.1 hs
      cases hs
      exact sealCells_agree _ e1
  · exact sealV_agree hs
theorem sealArgs_agree {lim : Nat} : ∀ (vs : List AV) {h h' : Hp} {vs' : List AV}, sealArgs h vs = some (vs', h') → Agree lim h h' ∧ h'.nx = h.nx := by
  intro vs
  induction vs with
  | nil => intro h h' vs' hs; simp only [sealArgs, Option.some.injEq, Prod.mk.injEq] at hs; obtain ⟨_, rfl⟩ := hs; exact ⟨Agree.refl _ _, rfl⟩
  | cons v vs ih =>
    intro h h' vs' hs
    simp only [sealArgs] at hs
    obtain ⟨⟨v1, h1⟩, e1, hs⟩ := Option.bind_eq_some_iff.1 hs
    obtain ⟨⟨vs1, h2⟩, e2, hs⟩ := Option.map_eq_some_iff.1 hs
    cases hs
    obtain ⟨a1, n1⟩ := sealA_agree (lim := lim) e1
    obtain ⟨a2, n2⟩ := ih e2
    exact ⟨a1.trans a2, n2.trans n1⟩

theorem mapH_agree {lim : Nat} {f : Hp → AV → AV × Hp} (hf : ∀ (h : Hp) v, lim ≤ h.nx → Agree lim h (f h v).2 ∧ h.nx ≤ (f h v).2.nx) : ∀ (vs : List AV) {h : Hp}, lim ≤ h.nx → Agree lim h (mapH f h vs).2 ∧ h.nx ≤ (mapH f h vs).2.nx := by
  intro vs
  induction vs with
  | nil => intro h _; exact ⟨Agree.refl _ _, Nat.le_refl _⟩
  | cons v vs ih =>
    intro h hl
    obtain ⟨a1, n1⟩ := hf h v hl
    obtain ⟨a2, n2⟩ := ih (h := (f h v).2) (Nat.le_trans hl n1)
    exact ⟨a1.trans a2, Nat.le_trans n1 n2⟩
theorem importN_agree {lim : Nat} : ∀ (k : Nat) (h : Hp) (v : AV), lim ≤ h.nx → Agree lim h (importN k h v).2 ∧ h.nx ≤ (importN k h v).2.nx := by
  intro k
  induction k with
  | zero => intro h v _; exact ⟨Agree.refl _ _, Nat.le_refl _⟩
  | succ k ih =>
    intro h v hl
    cases v
    case fresh sz flat =>
      obtain ⟨a1, n1⟩ := mapH_agree (f := importN k) (fun h v => ih h v) flat hl
      simp only [importN]
      exact ⟨a1.trans (Agree.alloc (Nat.le_trans hl n1) _), by simp only [Hp.alloc]; omega⟩
    all_goals exact ⟨Agree.refl _ _, Nat.le_refl _⟩
theorem importV_agree {lim : Nat} (hl : lim ≤ h.nx) (v : AV) : Agree lim h (importV h v).2 ∧ h.nx ≤ (importV h v).2.nx := by
  unfold importV
  split
  · exact ⟨Agree.alloc hl _, by simp [Hp.alloc]⟩
  · exact mapH_agree (fun h v => importN_agree 3 h v) _ hl
  · exact importN_agree 4 _ _ hl
  · exact ⟨Agree.refl _ _, Nat.le_refl _⟩
theorem importL_agree {lim : Nat} : ∀ (vs : List AV) {h : Hp}, lim ≤ h.nx → Agree lim h (importL h vs).2 ∧ h.nx ≤ (importL h vs).2.nx := by
  intro vs
  induction vs with
  | nil => intro h _; exact ⟨Agree.refl _ _, Nat.le_refl _⟩
  | cons v vs ih =>
    intro h hl
    obtain ⟨a1, n1⟩ := importV_agree hl v
    obtain ⟨a2, n2⟩ := ih (h := (importV h v).2) (Nat.le_trans hl n1)
    exact ⟨a1.trans a2, Nat.le_trans n1 n2⟩
theorem importR_agree {lim : Nat} (hl : lim ≤ h.nx) (v : AV) : Agree lim h (importR h v).2 ∧ h.nx ≤ (importR h v).2.nx := by
  unfold importR
  split
  · exact importL_agree _ hl
  · exact importV_agree hl _

theorem opNew_agree {lim : Nat} (hl : lim ≤ h.nx) {o : Op} {v : AV} (hs : opNew P dp o ρ h = some (v, h')) : Agree lim h h' ∧ h.nx ≤ h'.nx := by
  cases o <;> try (simp [opNew] at hs; done)
  case alloc e =>
    simp only [opNew] at hs
    obtain ⟨z, _, hs⟩ := Option.bind_eq_some_iff.1 hs
    split at hs
    · cases hs; exact ⟨Agree.alloc hl _, by simp [Hp.alloc]⟩
    · cases hs
  case box e x =>
    simp only [opNew] at hs
    split at hs
    · cases hs; exact ⟨Agree.alloc hl _, by simp [Hp.alloc]⟩
    · cases hs
  case makeMap t r =>
    cases r with
    | some r => simp [opNew] at hs
    | none => simp only [opNew, Option.some.injEq, Prod.mk.injEq] at hs; obtain ⟨_, rfl⟩ := hs; exact ⟨Agree.alloc hl _, by simp [Hp.alloc]⟩
  case makeSlice t l c =>
    simp only [opNew] at hs
    split at hs
    · split at hs
      · split at hs
        · cases hs; exact ⟨Agree.alloc hl _, by simp [Hp.alloc]⟩
        · cases hs
      · cases hs
    · cases hs
  case buildSlice t len parts =>
    simp only [opNew] at hs
    split at hs
    · split at hs
      · split at hs
        · cases hs; exact ⟨Agree.alloc hl _, by simp [Hp.alloc]⟩
        · split at hs
          · split at hs
            · split at hs
              · obtain ⟨cs, _, hs⟩ := Option.map_eq_some_iff.1 hs
                cases hs
                exact ⟨Agree.alloc hl _, by simp [Hp.alloc]⟩
              · cases hs
            obtain ⟨⟨vs, h1⟩, e1, hs⟩ := Option.bind_eq_some_iff.1 hs
            dsimp only at hs
            split at hs
            · obtain ⟨cs, e2, hs⟩ := Option.bind_eq_some_iff.1 hs
              split at hs
              · cases hs
                obtain ⟨a, n⟩ := sealArgs_agree (lim := lim) _ e1
                exact ⟨a, Nat.le_of_eq n.symm⟩
              · cases hs
            · cases hs
          · cases hs
      · cases hs
    · cases hs

end
end Go.Am

