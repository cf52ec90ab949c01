/-
  two: run as it stands.
  TopWalk: the configuration in which the whole statement can be run: Chance's answers are put in.
-/
import Derived.Test.YtihnplomlphfjaaTM1
import Derived.Test.YtihnplomlphfjaaTSFacts
import Derived.Test.YtihnplomlphfjaaAmEnd
import Derived.Test.YtihnplomlphfjaaAmDeep
set_option linter.unusedVariables false
set_option linter.unusedSimpArgs false
set_option maxRecDepth 10000
namespace Go.Proofs.Ytihnplomlphfjaa
open Go Go.Am

theorem f9_run : callP Try.prog B.cfg 500 9 [] = some (.bool true) := by kernel_rfl
end Go.Proofs.Ytihnplomlphfjaa

set_option linter.unusedVariables false
set_option linter.unusedSimpArgs false
set_option maxRecDepth 10000
namespace Go.Proofs.Ytihnplomlphfjaa
open Go Go.Am

def decL : List (List AV) → Option (List Int)
  | [] => some []
  | [.int .i64 x] :: xs => (decL xs).map (x :: ·)
  | _ => none
def decLL : List (List AV) → Option (List (List Int))
  | [] => some []
  | [.lst r] :: xs => (decL r).bind fun r' => (decLL xs).map (r' :: ·)
  | _ => none
theorem decL_eq : ∀ {xs : List (List AV)} {l : List Int}, decL xs = some l → xs = l.map (e1 I)
  | [], l, h => by cases h; rfl
  | x :: xs, l, h => by
    unfold decL at h
    split at h
    · rename_i e; cases e
    · rename_i y ys e
      cases e
      obtain ⟨l', h1, rfl⟩ := Option.map_eq_some_iff.1 h
      rw [decL_eq h1]; rfl
    · cases h
theorem decLL_eq : ∀ {xs : List (List AV)} {l : List (List Int)}, decLL xs = some l → xs = l.map (e1 LI)
  | [], l, h => by cases h; rfl
  | x :: xs, l, h => by
    unfold decLL at h
    split at h
    · rename_i e; cases e
    · rename_i r ys e
      cases e
      obtain ⟨r', h1, h2⟩ := Option.bind_eq_some_iff.1 h
      obtain ⟨l', h3, rfl⟩ := Option.map_eq_some_iff.1 h2
      rw [decLL_eq h3, decL_eq h1]; rfl
    · cases h
def smallLL (p : List (List Int)) : Bool := decide (p.length ≤ 10) && p.all fun r => decide (r.length ≤ 10)
theorem smallLL_ok {p : List (List Int)} (h : smallLL p = true) : B.okLL p := by
  simp only [smallLL, Bool.and_eq_true, decide_eq_true_eq, List.all_eq_true] at h
  have ml : maxLen = 9223372036854775807 := by decide
  exact ⟨by omega, fun r hr => by have := h.2 r hr; omega⟩
/-- The answers of 'two' and of Chance. -/
def extT (f : FuncId) : List AV → Option AV
  | [] => if f = 9 then some (.bool true) else none
  | [.agg [.lst ps, .lst ts], .lst [[.int .i64 2, .int .i64 1]], .lst []] =>
    if f = 12 then (decLL ps).bind fun p => (decLL ts).bind fun t => if smallLL p && smallLL t then some (B.chanceR p t [(2, 1)] []) else none else none
  | _ => none
def cfgT : Cfg := { own := fun _ => false, keepNil := fun _ => false, shared := fun f => f == 45, ext := extT, strict := S.cfg.strict, wr := S.cfg.wr }
@[go_sem] theorem cfgT_deep : cfgT.deep = false := by kernel_rfl
@[go_sem] theorem cfgT_strict (a b : Nat) : cfgT.strict a b = ((a == 1 && b == 9) || (a == 3 && b == 6) || (a == 7 && b == 15)) := rfl
theorem chance_pureT (p t : List (List Int)) (f g : List (Int × Int)) : (B.chanceR p t f g).isPure = true := by
  unfold B.chanceR
  split
  · split
    · rfl
    · split <;> rfl
  · rfl
theorem hextT : ExtOk Try.prog cfgT := by
  intro f args r he
  have he : extT f args = some r := he
  unfold extT at he
  split at he
  · split at he
    · rename_i hf
      cases he
      subst hf
      exact ⟨(sound (fun _ _ _ h => by cases h) 500).2.2.1 _ _ _ f9_run, fun _ => rfl⟩
    · cases he
  · split at he
    · rename_i hf
      subst hf
      obtain ⟨p, h1, he⟩ := Option.bind_eq_some_iff.1 he
      obtain ⟨t, h2, he⟩ := Option.bind_eq_some_iff.1 he
      split at he
      · rename_i hs
        simp only [Bool.and_eq_true] at hs
        cases he
        rw [decLL_eq h1, decLL_eq h2]
        exact ⟨B.f23_pure p t [(2, 1)] [] (smallLL_ok hs.1) (smallLL_ok hs.2) (by decide) (by decide), fun _ => chance_pureT _ _ _ _⟩
      · cases he
    · cases he
  · cases he

@[go_sem] theorem und49 : Try.prog.underlying 49 = some (.int .u64) := Try.underlying49
@[go_sem] theorem ownT (f : FuncId) : cfgT.own f = false := by kernel_rfl
@[go_sem] theorem knT (f : FuncId) : cfgT.keepNil f = false := by kernel_rfl
@[go_sem] theorem shrT5 : cfgT.shared 5 = false := by kernel_rfl
def ok64 (x : Int) : Prop := -9223372036854775808 ≤ x ∧ x ≤ 9223372036854775807
def modI (x n : Int) : Int := x % 18446744073709551616 % n
theorem modI_bounds (x : Int) {n : Int} (hn : 0 < n) : 0 ≤ modI x n ∧ modI x n < n := ⟨Int.emod_nonneg _ (by omega), Int.emod_lt_of_pos _ hn⟩
/-- The chain of the statement, and its values under the rule that stops at the end. -/
def rowsW (a b : Int) : List (List Int) := [[0, 0, 4 - a, a, 0, 0], [0, 0, 4 - b, b, 0, 0], [0, 0, 0, 0, 4 - a, a], [0, 0, 0, 0, 4 - b, b], [0, 0, 0, 0, 0, 0], [0, 0, 0, 0, 0, 0]]
def chainW (a b : Int) : AV := .agg [LLI (rowsW a b), LI [0, 0, 0, 0, 0, 1], LI [0, 0, 0, 0, 0, 0]]
def frW (x d : Int) : List AV := [I (x / B.gcdI x d), I (d / B.gcdI x d)]
def valsW (a b : Int) : AV := .lst [frW ((4 - a) * a + a * b) 16, frW ((4 - b) * a + b * b) 16, frW a 4, frW b 4, frW 0 1, frW 1 1]
end Go.Proofs.Ytihnplomlphfjaa
