/-
  Runs whose order is not known: a loop over a map. Rules for code, down at the model; what is shown of a whole function so can be put beside the second machine's own calls.
-/
import Derived.Test.YtcdpkgmkckfonaaAmMore
import Derived.Maps.RangeRun
set_option linter.unusedVariables false
set_option linter.unusedSimpArgs false
namespace Go.Am
open Go Go.RowKit Go.ChangeMaps

section
variable {P : Program} {cfg : Cfg} {n : Nat}

/-- Whatever the model comes to from a state like (st, h), it is a state like one in R. -/
def Sem (P : Program) (n : Nat) (c : Code) (st : St) (h : Hp) (R : Exit → St → Hp → Prop) : Prop :=
  ∀ {w : World} {ctx : Ctx} {a : Act}, HR w ctx h → SR n w ctx st a → ∀ {Q : Exit → Act → World → Prop}, (∀ x st' h', R x st' h' → ∀ w' c' a', Ext w ctx w' c' → HR w' c' h' → SR n w' c' st' a' → Q x a' w') → c.wp P Q a w

theorem Sem.mono {c : Code} {st : St} {h : Hp} {R R' : Exit → St → Hp → Prop} (hs : Sem P n c st h R) (hr : ∀ x st' h', R x st' h' → R' x st' h') : Sem P n c st h R' :=
  fun H S _ hQ => hs H S fun x st' h' r => hQ x st' h' (hr x st' h' r)
/-- What comes behind a first part. -/
def SemK (P : Program) (n : Nat) (b : Code) (R : Exit → St → Hp → Prop) : Exit → St → Hp → Prop := fun x st h => match x with | .normal => Sem P n b st h R | x => R x st h
@[go_sem ↓] theorem SemK_normal {b : Code} {st : St} {h : Hp} {R : Exit → St → Hp → Prop} : SemK P n b R .normal st h = Sem P n b st h R := rfl
@[go_sem ↓] theorem SemK_ret {b : Code} {st : St} {h : Hp} {R : Exit → St → Hp → Prop} : SemK P n b R .ret st h = R .ret st h := rfl
@[go_sem ↓] theorem SemK_exit {b : Code} {st : St} {h : Hp} {R : Exit → St → Hp → Prop} (j : Nat) : SemK P n b R (.exit j) st h = R (.exit j) st h := rfl
theorem Sem.seq {a b : Code} {st : St} {h : Hp} {R : Exit → St → Hp → Prop} (h1 : Sem P n a st h fun x st' h' => ExitOk x ∧ SemK P n b R x st' h') : Sem P n (.seq a b) st h R := by
  intro w ctx act H S Q hQ
  refine wp_seq (h1 H S fun x st' h' ⟨o, r⟩ w' c' a' E H' S' => ?_)
  cases x with
  | normal => exact r H' S' fun x2 st2 h2 r2 w2 c2 a2 E2 H2 S2 => hQ x2 st2 h2 r2 w2 c2 a2 (E.trans E2) H2 S2
  | exit j => exact hQ _ st' h' r w' c' a' E H' S'
  | ret => exact hQ _ st' h' r w' c' a' E H' S'
  | _ => exact o.elim
/-! ### An iterator takes a step: nothing that the second machine sees changes -/
section
variable {w : World} {c : Ctx} {r : Nat} {m m' : Option Nat} {s s' lt lt' : Nat} {sn sn' : Array Nat} (hr : w.heap[r]? = some (.mapIter m s sn lt))
include hr
end

/-- A block that no number stands for any more becomes one that nobody writes. -/
theorem HR.freeze {w : World} {c : Ctx} {h : Hp} (H : HR w c h) {b : Nat} (hb : b < w.heap.size) (hbase : c.base ≤ b) (hno : ∀ id r, c.loc id ≠ .at_ b r) (hnp : ¬ c.pv b) :
    Ext w c w { c with fz := fun x => c.fz x ∨ x = b } ∧ HR w { c with fz := fun x => c.fz x ∨ x = b } h := by
  have E : Ext w c w { c with fz := fun x => c.fz x ∨ x = b } := ⟨rfl, Nat.le_refl _, Below.refl _ _, fun _ h => .inl h, fun _ _ => rfl, fun _ _ => .inl rfl, fun _ _ _ _ _ => rfl, fun x hx => by
    rcases hx with hx | rfl
    · exact .inl hx
    · exact .inr hbase, rfl, fun _ _ => rfl⟩
  refine ⟨E, H.nx, H.dead, H.hi, fun id blk hblk => ?_, H.inj, fun x hx => ?_, H.base, fun x hp => ⟨(H.priv x hp).1, fun hf => hf.elim (H.priv x hp).2.1 (fun e => hnp (e ▸ hp)), (H.priv x hp).2.2⟩⟩
  · refine (H.blk id blk hblk).mono E (fun _ _ _ => rfl) fun k r hl => ?_
    constructor
    · rintro (h1 | rfl)
      · exact h1
      · exact absurd hl (hno id r)
    · exact .inl
  · rcases hx with hx | rfl
    · exact H.fzlt x hx
    · exact hb

/-! ### The loop -/
section
variable {mt kt et : TypeId} {src : Operand} {tm it nx ok en k v kv vv i0 i1 i2 B C : Nat} {body : Code}
  {y0 y1 y2 y3 y4 y5 y6 y7 y8 : TypeId} {p0 p1 p2 p3 p4 p5 p6 p7 p8 : String} {a0 a1 a2 a3 a4 a5 a6 a7 a8 : Array Edge}

end
end
end Go.Am

