/-
  Drawn regions whose orders are compared by what their operations touch.
-/
import Derived.Test.YtcdpkgmkckfonaaAmPerm
import Derived.Test.YtcdpkgmkckfonaaAmSeal
set_option linter.unusedVariables false
set_option linter.unusedSimpArgs false
namespace Go.Am
open Go

/-! ### What is sealed names no block -/
theorem sealedV0_pure {h h' : Hp} {v v' : AV} (hs : sealV0 h v = some (v', h')) : v'.isPure = true := by
  unfold sealV0 at hs
  split at hs
  · rename_i hp
    cases hs
    split
    · rfl
    · exact hp
  · split at hs
    · rename_i id off n sz hnp
      split at hs
      · split at hs
        · rename_i fz row flat hb hc
          obtain ⟨hp, hle, hsz⟩ := hc
          cases hs
          have hlen : ((flat.drop off).take (n * sz)).length = n * sz := by simp; omega
          obtain ⟨k1, k2, k3⟩ := chunk_ok hsz n _ hlen
          simp only [AV.isPure]
          rw [← pureLL_flatten, k2]
          exact pureL_flatten_of hp off _
        · cases hs
      · cases hs
    · split at hs
      · split at hs
        · rename_i fz row flat hb hc
          cases hs
          simp only [AV.isPure]
          have := pureL_flatten_of hc.1 (‹Nat› : Nat) (flat.drop (‹Nat› : Nat)).length
          rwa [List.take_length] at this
        · cases hs
      · cases hs
    · split at hs
      · split at hs
        · rename_i hp
          cases hs
          simpa [AV.isPure] using hp
        · cases hs
      · cases hs
    · cases hs
theorem sealedCells0_pure : ∀ (vs : List AV) {h h' : Hp} {vs' : List AV}, sealCells0 h vs = some (vs', h') → AV.pureL vs' = true ∧ vs'.length = vs.length := by
  intro vs
  induction vs with
  | nil => intro h h' vs' hs; simp only [sealCells0, Option.some.injEq, Prod.mk.injEq] at hs; obtain ⟨rfl, _⟩ := hs; exact ⟨rfl, rfl⟩
  | cons v vs ih =>
    intro h h' vs' hs
    simp only [sealCells0] at hs
    obtain ⟨⟨v1, h1⟩, e1, hs⟩ := Option.bind_eq_some_iff.1 hs
    obtain ⟨⟨vs1, h2⟩, e2, hs⟩ := Option.map_eq_some_iff.1 hs
    cases hs
    obtain ⟨p, q⟩ := ih e2
    exact ⟨by simp [AV.pureL, sealedV0_pure e1, p], by simp [q]⟩
theorem sealedV_pure {h h' : Hp} {v v' : AV} (hs : sealV h v = some (v', h')) : v'.isPure = true := by
  unfold sealV at hs
  split at hs
  · rename_i id off n sz
    split at hs
    · rename_i fz row flat hb
      split at hs
      · exact sealedV0_pure hs
      · obtain ⟨⟨flat', h1⟩, e1, hs⟩ := Option.bind_eq_some_iff.1 hs
        simp only at hs
        split at hs
        · split at hs
          · rename_i hc
            obtain ⟨hle, hsz⟩ := hc
            cases hs
            have hlen : ((flat'.drop off).take (n * sz)).length = n * sz := by simp; omega
            obtain ⟨k1, k2, k3⟩ := chunk_ok hsz n _ hlen
            simp only [AV.isPure]
            rw [← pureLL_flatten, k2]
            exact pureL_flatten_of (sealedCells0_pure _ e1).1 off _
          · cases hs
        · cases hs
    · cases hs
  · exact sealedV0_pure hs
theorem sealedCells_pure : ∀ (vs : List AV) {h h' : Hp} {vs' : List AV}, sealCells h vs = some (vs', h') → AV.pureL vs' = true := by
  intro vs
  induction vs with
  | nil => intro h h' vs' hs; simp only [sealCells, Option.some.injEq, Prod.mk.injEq] at hs; obtain ⟨rfl, _⟩ := hs; rfl
  | cons v vs ih =>
    intro h h' vs' hs
    simp only [sealCells] at hs
    obtain ⟨⟨v1, h1⟩, e1, hs⟩ := Option.bind_eq_some_iff.1 hs
    obtain ⟨⟨vs1, h2⟩, e2, hs⟩ := Option.map_eq_some_iff.1 hs
    cases hs
    simp [AV.pureL, sealedV_pure e1, ih e2]
theorem sealedA_pure {h h' : Hp} {v v' : AV} (hs : sealA h v = some (v', h')) : v'.isPure = true := by
  unfold sealA at hs
  split at hs
  · split at hs
    · rename_i hp; cases hs; exact hp
    · obtain ⟨⟨cs', h1⟩, e1, hs⟩ := Option.map_eq_some_iff.1 hs
      cases hs
      simpa [AV.isPure] using sealedCells_pure _ e1
  · split at hs
    · rename_i hp; cases hs; exact hp
    · obtain ⟨⟨cs', h1⟩, e1, hs⟩ := Option.map_eq_some_iff.1 hs
      cases hs
      simpa [AV.isPure] using sealedCells_pure _ e1
  · exact sealedV_pure hs
theorem exportV_pure {P : Program} {kn : Bool} {t : TypeId} {h h' : Hp} {u u' : List Nat} {v v' : AV} (hs : exportV P false kn t h u v = some (v', h', u')) : v'.isPure = true := by
  unfold exportV at hs
  rw [if_neg (by simp)] at hs
  split at hs
  · cases hs; rfl
  · obtain ⟨⟨v1, h1⟩, e1, hs⟩ := Option.map_eq_some_iff.1 hs
    cases hs
    exact sealedA_pure e1
theorem exportL_pure {P : Program} {kn : Bool} : ∀ (ts : List TypeId) (vs : List AV) {h : Hp} {u : List Nat} {vs' : List AV}, exportL P false kn h u ts vs = some vs' → AV.pureL vs' = true := by
  intro ts
  induction ts with
  | nil => intro vs h u vs' hs; cases vs <;> simp [exportL] at hs; subst hs; rfl
  | cons t ts ih =>
    intro vs h u vs' hs
    cases vs with
    | nil => simp [exportL] at hs
    | cons v vs =>
      simp only [exportL] at hs
      obtain ⟨⟨v1, h1, u1⟩, e1, hs⟩ := Option.bind_eq_some_iff.1 hs
      obtain ⟨vs1, e2, hs⟩ := Option.map_eq_some_iff.1 hs
      subst hs
      simp [AV.pureL, exportV_pure e1, ih vs e2]
theorem exportR_pure {P : Program} {kn : Bool} {ts : List TypeId} {h : Hp} {v r : AV} (hs : exportR P false kn ts h v = some r) : r.isPure = true := by
  unfold exportR at hs
  split at hs
  · obtain ⟨vs1, e, hs⟩ := Option.map_eq_some_iff.1 hs
    subst hs
    simpa [AV.isPure] using exportL_pure _ _ e
  · split at hs
    · obtain ⟨⟨v1, h1, u1⟩, e1, hs⟩ := Option.bind_eq_some_iff.1 hs
      split at hs
      · cases hs
      · cases hs; exact exportV_pure e1
    · cases hs

theorem sealA_of_pure {v : AV} (hp : v.isPure = true) : ∃ v', ∀ h, sealA h v = some (v', h) := by
  cases v
  case agg cs => exact ⟨.agg cs, fun h => by simp [sealA, hp]⟩
  case fn f cs => exact ⟨.fn f cs, fun h => by simp [sealA, hp]⟩
  case sl => simp [AV.isPure] at hp
  case nil => exact ⟨.lst [], fun h => rfl⟩
  all_goals exact ⟨_, fun h => by simp only [sealA, sealV, sealV0, hp, if_true]; rfl⟩
theorem sealArgs_of_pure : ∀ (vs : List AV), (∀ v ∈ vs, v.isPure = true) → ∃ vs', ∀ h, sealArgs h vs = some (vs', h) := by
  intro vs
  induction vs with
  | nil => intro _; exact ⟨[], fun h => rfl⟩
  | cons v vs ih =>
    intro hp
    obtain ⟨v', e1⟩ := sealA_of_pure (hp v List.mem_cons_self)
    obtain ⟨vs', e2⟩ := ih fun u hu => hp u (List.mem_cons_of_mem _ hu)
    exact ⟨v' :: vs', fun h => by simp [sealArgs, e1, e2]⟩
theorem importV_of_pure {v : AV} (hp : v.isPure = true) (h : Hp) : importV h v = (v, h) := by
  cases v <;> first | rfl | simp [AV.isPure] at hp
theorem importL_of_pure : ∀ (vs : List AV) (h : Hp), AV.pureL vs = true → importL h vs = (vs, h) := by
  intro vs
  induction vs with
  | nil => intro h _; rfl
  | cons v vs ih =>
    intro h hp
    simp only [AV.pureL, Bool.and_eq_true] at hp
    simp [importL, importV_of_pure hp.1, ih h hp.2]
theorem importR_of_pure {v : AV} (hp : v.isPure = true) (h : Hp) : importR h v = (v, h) := by
  unfold importR
  split
  · simp only [AV.isPure] at hp
    simp [importL_of_pure _ h hp]
  · exact importV_of_pure hp h

/-- A call that is handed nothing alive, and hands nothing alive back, does not depend on memory. -/
def CallCalm (cfg : Cfg) (call : FuncId → List AV → Hp → Option (AV × Hp)) : Prop :=
  ∀ g args h r h', cfg.shared g = false → cfg.own g = false → (∀ x ∈ args, x.isPure = true) → call g args h = some (r, h') → h' = h ∧ ∀ h2, call g args h2 = some (r, h2)

theorem callP_pure {P : Program} {cfg : Cfg} (hE : ∀ f args r, cfg.ext f args = some r → cfg.own f = false → r.isPure = true) {k : Nat} {f : FuncId} {args : List AV} {r : AV} (ho : cfg.own f = false) (h : callP P cfg k f args = some r) : r.isPure = true := by
  cases k with
  | zero => simp [callP] at h
  | succ k =>
    simp only [callP] at h
    split at h
    · rename_i he
      cases h
      exact hE _ _ _ he ho
    · split at h
      · cases h
      · obtain ⟨⟨v, h1⟩, _, h⟩ := Option.bind_eq_some_iff.1 h
        rw [ho] at h
        exact exportR_pure h
theorem callO_calm {P : Program} {cfg : Cfg} (hE : ∀ f args r, cfg.ext f args = some r → cfg.own f = false → r.isPure = true) (k : Nat) : CallCalm cfg (callO P cfg k) := by
  intro g args h r h' hsh ho hp hr
  cases k with
  | zero => simp [callO] at hr
  | succ k =>
    obtain ⟨vs, hvs⟩ := sealArgs_of_pure args hp
    simp only [callO, hsh, Bool.false_eq_true, if_false, hvs, Option.bind_some] at hr ⊢
    obtain ⟨r1, e1, hr⟩ := Option.bind_eq_some_iff.1 hr
    have hpr := callP_pure hE ho e1
    simp only [e1, Option.bind_some, importR_of_pure hpr, ite_self, Option.some.injEq, Prod.mk.injEq] at hr ⊢
    exact ⟨hr.2.symm, fun h2 => ⟨hr.1, trivial⟩⟩

section
variable {dp : Bool} {P : Program} {cfg : Cfg} {call : FuncId → List AV → Hp → Option (AV × Hp)} {ops : Array Oper} {l : Nat → Bool}

def AgreeS (l : Nat → Bool) (h h' : Hp) : Prop := ∀ id, l id = true → alike (h.bl id) (h'.bl id)
theorem AgreeS.refl (h : Hp) : AgreeS l h h := fun _ _ => alike.refl _
theorem AgreeS.symm {h h' : Hp} (a : AgreeS l h h') : AgreeS l h' h := fun id hid => (a id hid).symm
theorem Agree.toS {n : Nat} {h h' : Hp} (a : Agree n h h') (hl : ∀ id, l id = true → id < n) : AgreeS l h h' := fun id hid => a id (hl id hid)
theorem AgreeS.put {h : Hp} {id : Nat} (hid : l id = false) (b : Option Blk) : AgreeS l h (h.put id b) := by
  intro j hj
  simp only [Hp.put]
  rw [if_neg (by rintro rfl; rw [hid] at hj; cases hj)]
  exact alike.refl _
theorem AgreeS.putAlloc {h : Hp} {id : Nat} (hid : l id = false) (hl : ∀ id, l id = true → id < h.nx) (b : Option Blk) (c : Blk) : AgreeS l h ((h.put id b).alloc c) := by
  intro j hj
  have h0 := hl j hj
  show alike _ (if j = h.nx then some c else if j = id then b else h.bl j)
  rw [if_neg (Nat.ne_of_lt h0), if_neg (by rintro rfl; rw [hid] at hj; cases hj)]
  exact alike.refl _

theorem chk_congr {o : Op} {ρ ρ' : Operand → AV} (e : ∀ x ∈ o.operands, ρ x = ρ' x) : chk cfg l o ρ = chk cfg l o ρ' := by
  cases o <;> try rfl
  case load t p => simp only [chk]; rw [e p (by simp [Op.operands])]
  case slice t x lo hi mx => simp only [chk]; rw [e x (by simp [Op.operands])]
  case lookup t m k ok => simp only [chk]; rw [e m (by simp [Op.operands])]
  case store t p x => simp only [chk]; rw [e p (by simp [Op.operands])]
  case mapUpdate t m k x => simp only [chk]; rw [e m (by simp [Op.operands])]
  case insert t m k x => simp only [chk]; rw [e m (by simp [Op.operands])]
  case buildSlice t n parts =>
    simp only [chk]
    congr 1
    rw [Bool.eq_iff_iff, List.all_eq_true, List.all_eq_true]
    have : ∀ p ∈ parts.toList, ρ p.2 = ρ' p.2 := fun p hp => e p.2 (by simp only [Op.operands]; simp; exact ⟨p.1, by simpa using hp⟩)
    exact ⟨fun h p hp => by rw [← this p hp]; exact h p hp, fun h p hp => by rw [this p hp]; exact h p hp⟩
  case call c =>
    obtain ⟨callee, args, ts⟩ := c
    have ha : ∀ x ∈ args.toList, ρ x = ρ' x := fun x hx => e x (by simp only [Op.operands, Call.operands]; simp; exact .inr (by simpa using hx))
    have h0 : ∀ x, args[0]? = some x → ρ x = ρ' x := fun x hx => ha x (by have := Array.mem_of_getElem? hx; simpa using this)
    cases callee with
    | value f =>
      cases f <;> try rfl
      rename_i g
      simp only [chk]
      congr 1
      rw [Bool.eq_iff_iff, List.all_eq_true, List.all_eq_true]
      exact ⟨fun h p hp => by rw [← ha p hp]; exact h p hp, fun h p hp => by rw [ha p hp]; exact h p hp⟩
    | invoke r m => rfl
    | builtin b =>
      cases b <;> try rfl
      all_goals
        simp only [chk]
        cases hx : args[0]? with
        | none => rfl
        | some x => dsimp only; rw [h0 x hx]

theorem chkG_congr {o : Oper} {st st' : St} (hs : ∀ t ∈ readsOf ops o, st t = st' t) : chkG cfg l ops o st = chkG cfg l ops o st' := by
  have e : chk cfg l o.op (ev st) = chk cfg l o.op (ev st') := chk_congr (ev_congr fun t ht => hs t (by simp only [readsOf, List.mem_append]; exact .inl ht))
  unfold chkG
  cases hg : o.guard with
  | none => exact e
  | some g =>
    obtain ⟨j, w⟩ := g
    dsimp only
    cases hd : (ops[j]?).bind (·.dst) with
    | none => rfl
    | some d =>
      dsimp only
      rw [hs d (by simp only [readsOf, List.mem_append, hg, hd]; exact .inr (by simp)), e]
theorem chkG_upd {o : Oper} {st : St} {d : Option Nat} {v : AV} (hd : ∀ t, d = some t → t ∉ readsOf ops o) : chkG cfg l ops o (updO st d v) = chkG cfg l ops o st := by
  apply chkG_congr
  intro t ht
  cases d with
  | none => rfl
  | some d =>
    simp only [updO, upd]
    rw [if_neg]
    rintro rfl
    exact hd t rfl ht

/-- From an operation to the operation under its guard. -/
theorem act_of {o : Oper} {st : St} {h h1 : Hp} {v : AV} (hk : chkG cfg l ops o st = true) (ha : act P cfg.deep call ops none o st h = some (v, h1)) {R : (Hp → Option (AV × Hp)) → Prop}
    (hskip : v = .skp → h1 = h → R fun h => some (.skp, h)) (hstep : chk cfg l o.op (ev st) = true → stepK P cfg.deep call ops none o st h = some (v, h1) → R fun h => stepK P cfg.deep call ops none o st h) :
    R fun h => act P cfg.deep call ops none o st h := by
  unfold act at ha ⊢
  unfold chkG at hk
  cases hg : o.guard with
  | none => rw [hg] at ha hk; exact hstep hk ha
  | some g =>
    obtain ⟨j, w⟩ := g
    rw [hg] at ha hk
    dsimp only at ha hk ⊢
    cases hd : (ops[j]?).bind (·.dst) with
    | none => rw [hd] at ha; cases ha
    | some d =>
      rw [hd] at ha hk
      dsimp only at ha hk ⊢
      cases hst : st d <;> rw [hst] at ha hk <;> (try (cases ha; done))
      case bool b =>
        dsimp only at ha hk ⊢
        by_cases hb : b = w
        · simp only [hb, if_true] at ha hk ⊢
          exact hstep hk ha
        · simp only [hb, if_false] at ha hk ⊢
          cases ha
          exact hskip rfl rfl
      case skp => cases ha; exact hskip rfl rfl

theorem rd_S {h h' : Hp} {id : Nat} (a : alike (h.bl id) (h'.bl id)) : rd h none id = rd h' none id := by
  unfold rd
  revert a
  cases h.bl id with
  | none => cases h'.bl id with
    | none => intro _; rfl
    | some b => cases b <;> intro a <;> exact a.elim
  | some b => cases h'.bl id with
    | none => cases b <;> intro a <;> exact a.elim
    | some b' => cases b <;> cases b' <;> intro a <;> first | exact a.elim | rfl | (obtain ⟨rfl, rfl⟩ := a; rfl)

theorem opRead_S {o : Op} {ρ : Operand → AV} {h h' : Hp} (hk : chk cfg l o ρ = true) (a : AgreeS l h h') : opRead P o ρ h none = opRead P o ρ h' none := by
  cases o <;> try rfl
  case load t p =>
    simp only [chk] at hk
    simp only [opRead]
    cases hp : ρ p <;> rw [hp] at hk <;> try rfl
    dsimp only at hk ⊢
    rw [rd_S (a _ hk)]
  case slice t x lo hi mx =>
    cases mx with
    | some m => rfl
    | none =>
    simp only [chk] at hk
    simp only [opRead]
    cases hu : P.underlying t with
    | none => rfl
    | some d =>
      cases d <;> try rfl
      rename_i n e
      cases hx : ρ x <;> rw [hx] at hk <;> try rfl
      rename_i id off
      dsimp only at hk ⊢
      have := a _ hk
      congr 1
      funext b
      congr 1
      funext aa
      cases isz P e with
      | none => rfl
      | some sz =>
      revert this
      cases h.bl id with
      | none => cases h'.bl id with
        | none => intro _; rfl
        | some b => cases b <;> intro a <;> exact a.elim
      | some b => cases h'.bl id with
        | none => cases b <;> intro a <;> exact a.elim
        | some b' => cases b <;> cases b' <;> intro a <;> first | exact a.elim | rfl | (obtain ⟨rfl, rfl⟩ := a; rename_i r f _; cases r <;> rfl)
  case lookup t m k ok =>
    simp only [chk] at hk
    simp only [opRead]
    cases hu : P.underlying t with
    | none => rfl
    | some d =>
      cases d <;> try rfl
      rename_i kt et
      cases hm : ρ m <;> rw [hm] at hk <;> try rfl
      case mv ks vs => cases ρ k <;> try rfl
                       rename_i ik n; cases ik <;> rfl
      rename_i id
      dsimp only at hk ⊢
      cases hkk : ρ k <;> try rfl
      rename_i ik n
      cases ik <;> try rfl
      dsimp only
      have := a _ hk
      revert this
      cases h.bl id with
      | none => cases h'.bl id with
        | none => intro _; rfl
        | some b => cases b <;> intro a <;> exact a.elim
      | some b => cases h'.bl id with
        | none => cases b <;> intro a <;> exact a.elim
        | some b' =>
          cases b <;> cases b' <;> intro a <;> first | exact a.elim | rfl | (cases a; cases izero P et <;> first | rfl | (cases P.underlying kt with | none => rfl | some d => cases d <;> rfl))
  case call c =>
    obtain ⟨callee, args, ts⟩ := c
    cases callee with
    | value f => rfl
    | invoke r m => rfl
    | builtin b =>
      cases b <;> try rfl
      simp only [chk] at hk
      simp only [opRead]
      cases hu : (ts[0]?).bind P.underlying with
      | none => rfl
      | some d =>
        cases d <;> try rfl
        cases hx : args[0]? with
        | none => rfl
        | some x =>
          rw [hx] at hk
          dsimp only [Option.map_some] at hk ⊢
          cases hm : ρ x <;> rw [hm] at hk <;> try rfl
          rename_i id
          dsimp only at hk ⊢
          have := a _ hk
          revert this
          cases h.bl id with
          | none => cases h'.bl id with
            | none => intro _; rfl
            | some b => cases b <;> intro a <;> exact a.elim
          | some b => cases h'.bl id with
            | none => cases b <;> intro a <;> exact a.elim
            | some b' => cases b <;> cases b' <;> intro a <;> first | exact a.elim | rfl | (cases a; rfl)

theorem kindS_read {o : Oper} (hk : kindS cfg o.op = .read) : kindOf cfg.shared o.op = .read := by
  cases hop : o.op <;> rw [hop] at hk <;> (try (simp [kindS] at hk; done)) <;> try rfl
  case buildSlice t n parts => simp only [kindS] at hk; split at hk <;> cases hk
  case call c =>
    obtain ⟨callee, args, ts⟩ := c
    cases callee with
    | value f => cases f <;> simp [kindS] at hk; split at hk <;> (try cases hk); split at hk <;> cases hk
    | invoke r m => simp [kindS] at hk
    | builtin b => cases b <;> (try (simp [kindS] at hk; done)) <;> rfl

theorem actS_read {o : Oper} (hk : kindS cfg o.op = .read) {st : St} {h h1 : Hp} {v : AV} (hg : chkG cfg l ops o st = true) (ha : act P cfg.deep call ops none o st h = some (v, h1)) : h1 = h ∧ ∀ h2, AgreeS l h h2 → act P cfg.deep call ops none o st h2 = some (v, h2) := by
  refine act_of hg ha (R := fun f => h1 = h ∧ ∀ h2, AgreeS l h h2 → f h2 = some (v, h2)) ?_ ?_
  · intro e1 e2; exact ⟨e2, fun h2 _ => by rw [e1]⟩
  · intro hc hs
    rw [kind_read (kindS_read hk)] at hs
    obtain ⟨u, hu, e⟩ := Option.map_eq_some_iff.1 hs
    cases e
    refine ⟨rfl, fun h2 hag => ?_⟩
    show stepK P cfg.deep call ops none o st h2 = _
    rw [kind_read (kindS_read hk), ← opRead_S hc hag, hu]; rfl

theorem actS_pure (hcm : CallCalm cfg call) {o : Oper} (hk : kindS cfg o.op = .pure) {st : St} {h h1 : Hp} {v : AV} (hg : chkG cfg l ops o st = true) (ha : act P cfg.deep call ops none o st h = some (v, h1)) : h1 = h ∧ ∀ h2, act P cfg.deep call ops none o st h2 = some (v, h2) := by
  refine act_of hg ha (R := fun f => h1 = h ∧ ∀ h2, f h2 = some (v, h2)) ?_ ?_
  · intro e1 e2; exact ⟨e2, fun h2 => by rw [e1]⟩
  · intro hc hs
    show h1 = h ∧ ∀ h2, stepK P cfg.deep call ops none o st h2 = some (v, h2)
    by_cases hko : kindOf cfg.shared o.op = .pure
    · rw [kind_pure hko] at hs
      obtain ⟨u, hu, e⟩ := Option.map_eq_some_iff.1 hs
      cases e
      exact ⟨rfl, fun h2 => by rw [kind_pure hko, hu]; rfl⟩
    · have hs0 := hs
      unfold stepK at hs ⊢
      cases hop : o.op <;> rw [hop] at hk hko hc <;> (try (simp [kindS] at hk; done)) <;> (try (exact absurd rfl hko))
      case buildSlice t n parts =>
        have hn : n ≠ 0 := by rintro rfl; simp [kindS] at hk
        have hdf : cfg.deep = false := by
          cases hx : cfg.deep with
          | false => rfl
          | true => rw [kindS, if_pos (.inr hx)] at hk; cases hk
        rw [hop] at hs
        simp only [chk, Bool.or_eq_true, beq_iff_eq, hn, hdf, Bool.false_eq_true, false_or, List.all_eq_true] at hc
        obtain ⟨vs, hvs⟩ := sealArgs_of_pure (parts.toList.map fun x => ev st x.2) (by
          intro x hx
          obtain ⟨p, hp, rfl⟩ := List.mem_map.1 hx
          exact hc p hp)
        have key : ∀ h2, opNew P cfg.deep (.buildSlice t n parts) (ev st) h2 = (opNew P cfg.deep (.buildSlice t n parts) (ev st) Hp.empty).map fun x => (x.1, h2) := by
          intro h2
          simp only [opNew]
          cases P.underlying t with
          | none => rfl
          | some d =>
            cases d <;> try rfl
            rename_i e
            dsimp only
            cases isz P e with
            | none => rfl
            | some sz =>
            cases izero P e with
            | none => rfl
            | some z =>
            dsimp only
            have hn' : ¬ (n = 0 ∧ parts = #[] ∧ 0 < sz) := fun hh => hn hh.1
            simp only [hn', hdf, Bool.false_eq_true, if_false]
            split
            · rw [hvs, hvs]
              simp only [Option.bind_some]
              split
              · cases fillA (fun i => some (i * sz, sz)) (List.replicate n z.cells).flatten ((parts.toList.map (·.1)).zip vs) with
                | none => rfl
                | some cs => simp only [Option.bind_some]; split <;> rfl
              · rfl
            · rfl
        simp only [opPure, opRead] at hs ⊢
        rw [key h] at hs
        cases hnew : opNew P cfg.deep (.buildSlice t n parts) (ev st) Hp.empty with
        | none => rw [hnew] at hs; simp [opWrite] at hs
        | some r =>
          rw [hnew] at hs
          simp only [Option.map_some, Option.some.injEq, Prod.mk.injEq] at hs
          refine ⟨hs.2.symm, fun h2 => ?_⟩
          rw [key h2, hnew]
          simp [hs.1]
      case call c =>
        obtain ⟨callee, args, ts⟩ := c
        cases callee with
        | value f =>
          cases f <;> (try (simp [kindS] at hk; done))
          rename_i g
          rw [hop] at hs
          simp only [kindS] at hk
          have hsh : cfg.shared g = false := by
            cases hx : cfg.shared g with
            | false => rfl
            | true => rw [hx] at hk; cases hk
          have hown : cfg.own g = false := by
            cases hx : cfg.own g with
            | false => rfl
            | true => rw [hsh, hx] at hk; cases hk
          simp only [chk, hsh, hown, Bool.false_or, List.all_eq_true] at hc
          simp only [opPure, opRead, opNew, opWrite, ev, List.append_nil] at hs ⊢
          exact hcm _ _ _ _ _ hsh hown (by
            intro x hx
            obtain ⟨p, hp, rfl⟩ := List.mem_map.1 hx
            exact hc p hp) hs
        | invoke r m => simp [kindS] at hk
        | builtin b => cases b <;> first | (simp [kindS] at hk; done) | exact absurd rfl hko

theorem actS_else (hc : CallNew cfg.shared call) {o : Oper} (hk : kindS cfg o.op = .new ∨ kindS cfg o.op = .write) {st : St} {h h1 : Hp} {v : AV} (hl : ∀ id, l id = true → id < h.nx) (hg : chkG cfg l ops o st = true) (ha : act P cfg.deep call ops none o st h = some (v, h1)) : AgreeS l h h1 := by
  refine act_of hg ha (R := fun _ => AgreeS l h h1) ?_ ?_
  · intro _ e2; rw [e2]; exact AgreeS.refl _
  · intro hcc hs
    rcases hk with hk | hk
    · have hko : kindOf cfg.shared o.op = .new := by
        cases hop : o.op <;> rw [hop] at hk <;> (try (simp [kindS] at hk; done)) <;> try rfl
        case call c =>
          obtain ⟨callee, args, ts⟩ := c
          cases callee with
          | value f =>
            cases f <;> (try (simp [kindS] at hk; done))
            simp only [kindS] at hk
            simp only [kindOf]
            split at hk
            · cases hk
            · rename_i hsh; rw [if_neg hsh]
          | invoke r m => simp [kindS] at hk
          | builtin b => cases b <;> simp [kindS] at hk
      exact (stepK_new hc hko (Nat.le_refl _) hs).1.toS hl
    · unfold stepK at hs
      cases hop : o.op <;> rw [hop] at hk hs hcc <;> (try (simp [kindS] at hk; done))
      case buildSlice t n parts => simp only [kindS] at hk; split at hk <;> cases hk
      case store t p x =>
        simp only [chk] at hcc
        simp only [opPure, opRead, opNew, opWrite] at hs
        cases hp : ev st p <;> rw [hp] at hcc <;> (try (cases hcc; done))
        rename_i id off
        rw [hp] at hs
        dsimp only at hcc hs
        cases hsz : isz P t with
        | none => rw [hsz] at hs; cases hs
        | some sz =>
        rw [hsz] at hs
        dsimp only at hs
        cases hb : h.bl id with
        | none => rw [hb] at hs; cases hs
        | some b =>
          rw [hb] at hs
          cases b with
          | cells fz row flat =>
            cases fz with
            | true => cases hs
            | false =>
              dsimp only at hs
              have : AgreeS l h h1 := by
                split at hs
                · rename_i w hw
                  simp only [Option.some.injEq] at hs
                  subst hs
                  split at hw
                  · simp only [Option.some.injEq, Prod.mk.injEq] at hw
                    rw [← hw.2]
                    exact AgreeS.put (by simpa using hcc) _
                  · cases hw
                · cases hs
              exact this
          | mp fz es => cases hs
          | it => cases hs
      case mapUpdate t m k x =>
        simp only [chk] at hcc
        simp only [opPure, opRead, opNew, opWrite] at hs
        cases hm : ev st m <;> rw [hm] at hcc <;> (try (cases hcc; done))
        rename_i id
        rw [hm] at hs
        dsimp only at hcc
        have : AgreeS l h h1 := by
          split at hs
          · rename_i w hw
            simp only [Option.some.injEq] at hs
            subst hs
            split at hw
            · rename_i e1 e2 e3
              simp only [AV.mp.injEq] at e2
              subst e2
              split at hw
              · split at hw
                · cases hw
                · simp only [Option.some.injEq, Prod.mk.injEq] at hw
                  rw [← hw.2]
                  exact AgreeS.put (by simpa using hcc) _
              · cases hw
            · cases hw
          · cases hs
        exact this
      case insert t m k x =>
        simp only [chk] at hcc
        simp only [opPure, opRead, opNew, opWrite] at hs
        cases hm : ev st m <;> rw [hm] at hcc <;> (try (cases hcc; done))
        rename_i id
        rw [hm] at hs
        dsimp only at hcc
        have : AgreeS l h h1 := by
          split at hs
          · rename_i w hw
            simp only [Option.some.injEq] at hs
            subst hs
            split at hw
            · rename_i e1 e2 e3
              simp only [AV.mp.injEq] at e2
              subst e2
              split at hw
              · split at hw
                · cases hw
                · simp only [Option.some.injEq, Prod.mk.injEq] at hw
                  rw [← hw.2]
                  exact AgreeS.put (by simpa using hcc) _
              · cases hw
            · cases hw
          · cases hs
        exact this
      case call c =>
        obtain ⟨callee, args, ts⟩ := c
        cases callee with
        | value f => cases f <;> (try (simp [kindS] at hk; done)); simp only [kindS] at hk; split at hk <;> (try cases hk); split at hk <;> cases hk
        | invoke r m => simp [kindS] at hk
        | builtin b =>
          cases b <;> (try (simp [kindS] at hk; done))
          case append =>
            simp only [chk] at hcc
            simp only [opPure, opRead, opNew] at hs
            cases ha0 : args[0]? with
            | none => rw [ha0] at hcc; cases hcc
            | some x0 =>
              rw [ha0] at hcc
              dsimp only at hcc
              cases hw : opWrite P (.call ⟨.builtin .append, args, ts⟩) (ev st) h with
              | none => rw [hw] at hs; cases hs
              | some r =>
                rw [hw] at hs
                cases hs
                simp only [opWrite, ha0] at hw
                split at hw
                · rename_i e0 e1 e2 e3
                  cases e2
                  split at hw
                  · split at hw
                    · split at hw
                      · split at hw
                        · split at hw
                          · cases hw; exact (Agree.alloc (lim := h.nx) (Nat.le_refl _) _).toS hl
                          · cases hw
                        · rename_i hx
                          rw [hx] at hcc
                          split at hw
                          · split at hw
                            · cases hw; exact AgreeS.putAlloc (by simpa using hcc) hl _ _
                            · cases hw
                          · cases hw
                        · cases hw
                      · cases hw
                    · cases hw
                  · cases hw
                · cases hw
          case copy =>
            simp only [chk] at hcc
            simp only [opPure, opRead, opNew] at hs
            cases ha0 : args[0]? with
            | none => rw [ha0] at hcc; cases hcc
            | some x0 =>
              rw [ha0] at hcc
              dsimp only at hcc
              cases hw : opWrite P (.call ⟨.builtin .copy, args, ts⟩) (ev st) h with
              | none => rw [hw] at hs; cases hs
              | some r =>
                rw [hw] at hs
                cases hs
                simp only [opWrite, ha0, Option.map_some] at hw
                split at hw
                · rename_i e0 e1 e2
                  simp only [Option.some.injEq] at e1
                  rw [e1] at hcc
                  split at hw
                  · split at hw
                    · split at hw
                      · cases hw; exact AgreeS.put (by simpa using hcc) _
                      · cases hw
                    · cases hw
                  · cases hw
                · cases hw

theorem stepS_iff {o : Oper} {st : St} {h : Hp} {r : St × Hp} : stepS P cfg call ops l o st h = some r ↔ chkG cfg l ops o st = true ∧ stepO P cfg.deep call ops none o st h = some r ∧ (isCallK o.op = true → KeepsL l h r.2) := by
  unfold stepS
  by_cases hc : chkG cfg l ops o st = true
  · rw [if_pos hc]
    by_cases hk : isCallK o.op = true
    · rw [if_pos hk]
      constructor
      · intro e
        obtain ⟨x, e1, e2⟩ := Option.bind_eq_some_iff.1 e
        split at e2
        · rename_i hh; cases e2; exact ⟨hc, e1, fun _ => hh⟩
        · cases e2
      · rintro ⟨_, e1, e2⟩
        rw [e1, Option.bind_some, if_pos (e2 hk)]
    · rw [if_neg hk]
      exact ⟨fun e => ⟨hc, e, fun h => absurd h hk⟩, fun e => e.2.1⟩
  · rw [if_neg hc]
    constructor
    · intro e; cases e
    · intro e; exact absurd e.1 hc
theorem kind_call {o : Op} (h : isCallK o = true) : kindS cfg o = .call := by
  unfold isCallK at h
  split at h
  · rfl
  · cases h
theorem KeepsL.agree {h h' : Hp} (k : KeepsL l h h') : AgreeS l h h' := fun id hid => by rw [k id hid]; exact alike.refl _
/-- Two operations that may change places do. -/
theorem swapS (hc : CallNew cfg.shared call) (hcm : CallCalm cfg call) {i j : Nat} {a b : Oper} (hp : pairS cfg ops i j a b = true) {st st1 st2 : St} {h h1 h2 : Hp} (hl : ∀ id, l id = true → id < h.nx)
    (e1 : stepS P cfg call ops l a st h = some (st1, h1)) (e2 : stepS P cfg call ops l b st1 h1 = some (st2, h2)) :
    ∃ st1' h1', stepS P cfg call ops l b st h = some (st1', h1') ∧ stepS P cfg call ops l a st1' h1' = some (st2, h2) := by
  simp only [pairS, Bool.and_eq_true] at hp
  obtain ⟨⟨hk, h5⟩, h6⟩ := hp
  have hda : ∀ t, a.dst = some t → t ∉ readsOf ops b ∧ b.dst ≠ some t := by
    intro t ht
    rw [ht] at h5
    simp only [Bool.and_eq_true, Bool.not_eq_true', decide_eq_true_eq] at h5
    refine ⟨fun hm => ?_, h5.2⟩
    have : (readsOf ops b).contains t = true := by simpa using hm
    rw [h5.1] at this; cases this
  have hdb : ∀ t, b.dst = some t → t ∉ readsOf ops a := by
    intro t ht hm
    rw [ht] at h6
    simp only [Bool.not_eq_true'] at h6
    have : (readsOf ops a).contains t = true := by simpa using hm
    rw [h6] at this; cases this
  obtain ⟨ga, e1, k1⟩ := stepS_iff.1 e1
  obtain ⟨gb, e2, k2⟩ := stepS_iff.1 e2
  dsimp only at k1 k2
  rw [stepO_act] at e1 e2
  obtain ⟨⟨va, g1⟩, A1, E1⟩ := Option.map_eq_some_iff.1 e1
  obtain ⟨⟨vb, g2⟩, B1, E2⟩ := Option.map_eq_some_iff.1 e2
  cases E1
  cases E2
  rw [chkG_upd (fun t ht => (hda t ht).1)] at gb
  rw [act_upd (fun t ht => (hda t ht).1)] at B1
  have fin : updO (updO st a.dst va) b.dst vb = updO (updO st b.dst vb) a.dst va := updO_comm fun t ht => (hda t ht).2
  have goal : ∀ hm, act P cfg.deep call ops none b st h = some (vb, hm) → act P cfg.deep call ops none a st hm = some (va, h2) → (isCallK b.op = true → KeepsL l h hm) → (isCallK a.op = true → KeepsL l hm h2) →
      ∃ st1' h1', stepS P cfg call ops l b st h = some (st1', h1') ∧ stepS P cfg call ops l a st1' h1' = some (updO (updO st a.dst va) b.dst vb, h2) := by
    intro hm hb ha kb ka
    refine ⟨updO st b.dst vb, hm, stepS_iff.2 ⟨gb, by rw [stepO_act, hb]; rfl, kb⟩, stepS_iff.2 ⟨by rw [chkG_upd hdb]; exact ga, ?_, ka⟩⟩
    rw [stepO_act, act_upd hdb, ha, fin]; rfl
  have nc : ∀ {o : Oper}, kindS cfg o.op ≠ .call → ∀ {A : Prop}, isCallK o.op = true → A := fun hn _ h => absurd (kind_call h) hn
  cases hka : kindS cfg a.op with
  | pure =>
    obtain ⟨rfl, f⟩ := actS_pure hcm hka ga A1
    exact goal h2 B1 (f h2) k2 (nc (by rw [hka]; decide))
  | read =>
    obtain ⟨rfl, f⟩ := actS_read hka ga A1
    have na : ∀ {A : Prop}, isCallK a.op = true → A := nc (by rw [hka]; decide)
    cases hkb : kindS cfg b.op with
    | pure =>
      obtain ⟨rfl, g⟩ := actS_pure hcm hkb gb B1
      exact goal _ B1 A1 k2 na
    | read =>
      obtain ⟨rfl, g⟩ := actS_read hkb gb B1
      exact goal _ B1 A1 k2 na
    | new => exact goal h2 B1 (f h2 (actS_else hc (.inl hkb) hl gb B1)) k2 na
    | write => exact goal h2 B1 (f h2 (actS_else hc (.inr hkb) hl gb B1)) k2 na
    | call =>
      have hcb : isCallK b.op = true := by
        rw [hka, hkb] at hk
        simpa [Kd.freeS, Kd.isRead] using hk
      exact goal h2 B1 (f h2 (k2 hcb).agree) k2 na
  | new =>
    have na : ∀ {A : Prop}, isCallK a.op = true → A := nc (by rw [hka]; decide)
    cases hkb : kindS cfg b.op with
    | pure =>
      obtain ⟨rfl, g⟩ := actS_pure hcm hkb gb B1
      exact goal h (g h) A1 (nc (by rw [hkb]; decide)) na
    | read =>
      obtain ⟨rfl, g⟩ := actS_read hkb gb B1
      exact goal h (g h (actS_else hc (.inl hka) hl ga A1).symm) A1 (nc (by rw [hkb]; decide)) na
    | new => rw [hka, hkb] at hk; simp [Kd.freeS, Kd.isRead] at hk
    | write => rw [hka, hkb] at hk; simp [Kd.freeS, Kd.isRead] at hk
    | call => rw [hka, hkb] at hk; simp [Kd.freeS, Kd.isRead] at hk
  | write =>
    have na : ∀ {A : Prop}, isCallK a.op = true → A := nc (by rw [hka]; decide)
    cases hkb : kindS cfg b.op with
    | pure =>
      obtain ⟨rfl, g⟩ := actS_pure hcm hkb gb B1
      exact goal h (g h) A1 (nc (by rw [hkb]; decide)) na
    | read =>
      obtain ⟨rfl, g⟩ := actS_read hkb gb B1
      exact goal h (g h (actS_else hc (.inr hka) hl ga A1).symm) A1 (nc (by rw [hkb]; decide)) na
    | new => rw [hka, hkb] at hk; simp [Kd.freeS, Kd.isRead] at hk
    | write => rw [hka, hkb] at hk; simp [Kd.freeS, Kd.isRead] at hk
    | call => rw [hka, hkb] at hk; simp [Kd.freeS, Kd.isRead] at hk
  | call =>
    cases hkb : kindS cfg b.op with
    | pure =>
      obtain ⟨rfl, g⟩ := actS_pure hcm hkb gb B1
      exact goal h (g h) A1 (nc (by rw [hkb]; decide)) k1
    | read =>
      obtain ⟨rfl, g⟩ := actS_read hkb gb B1
      have hca : isCallK a.op = true := by
        rw [hka, hkb] at hk
        simpa [Kd.freeS, Kd.isRead] using hk
      exact goal h (g h (k1 hca).agree.symm) A1 (nc (by rw [hkb]; decide)) k1
    | new => rw [hka, hkb] at hk; simp [Kd.freeS, Kd.isRead] at hk
    | write => rw [hka, hkb] at hk; simp [Kd.freeS, Kd.isRead] at hk
    | call => rw [hka, hkb] at hk; simp [Kd.freeS, Kd.isRead] at hk

theorem swapperO {shared : FuncId → Bool} {lim : Nat} (hc : CallNew shared call) (hm : CallMono call) : Swapper lim (stepO P dp call ops (some lim)) (pairOk shared ops) :=
  ⟨fun hs => stepO_nx hm hs, fun hp hl e1 e2 => swap hc hp hl e1 e2⟩
theorem swapperS {lim : Nat} (hc : CallNew cfg.shared call) (hcm : CallCalm cfg call) (hm : CallMono call) (hl : ∀ id, l id = true → id < lim) : Swapper lim (stepS P cfg call ops l) (pairS cfg ops) := by
  refine ⟨fun hs => ?_, fun hp hln e1 e2 => swapS hc hcm hp (fun id hid => Nat.lt_of_lt_of_le (hl id hid) hln) e1 e2⟩
  exact stepO_nx hm (stepS_iff.1 hs).2.1
theorem runOpsS_runG : ∀ (os : List Oper) (st : St) (h : Hp), runOpsS P cfg call ops l os st h = runG (stepS P cfg call ops l) os st h := by
  intro os
  induction os with
  | nil => intro st h; rfl
  | cons o os ih =>
    intro st h
    simp only [runOpsS, runG]
    congr 1
    funext x
    exact ih x.1 x.2
/-- What passes the checks runs without them. -/
theorem runL_S : ∀ (is : List Nat) (st : St) (h : Hp) {r : St × Hp}, runL (stepS P cfg call ops l) ops is st h = some r → runL (stepO P cfg.deep call ops none) ops is st h = some r := by
  intro is
  induction is with
  | nil => intro st h r hr; exact hr
  | cons i is ih =>
    intro st h r hr
    simp only [runL] at hr ⊢
    cases hi : ops[i]? with
    | none => rw [hi] at hr; exact ih st h hr
    | some o =>
      rw [hi] at hr
      dsimp only at hr ⊢
      obtain ⟨⟨st1, h1⟩, e1, hr⟩ := Option.bind_eq_some_iff.1 hr
      rw [(stepS_iff.1 e1).2.1]; exact ih st1 h1 hr
theorem runOpsS_nx (hm : CallMono call) : ∀ (os : List Oper) (st : St) (h : Hp) {st' : St} {h' : Hp}, runOpsS P cfg call ops l os st h = some (st', h') → h.nx ≤ h'.nx := by
  intro os
  induction os with
  | nil => intro st h st' h' hr; simp only [runOpsS, Option.some.injEq, Prod.mk.injEq] at hr; obtain ⟨_, rfl⟩ := hr; exact Nat.le_refl _
  | cons o os ih =>
    intro st h st' h' hr
    simp only [runOpsS] at hr
    obtain ⟨⟨st1, h1⟩, e1, hr⟩ := Option.bind_eq_some_iff.1 hr
    exact Nat.le_trans (stepO_nx hm (stepS_iff.1 e1).2.1) (ih st1 h1 hr)
end
end Go.Am

