/-
  awake: run as it stands, with the answer of Chance put in.
-/
import Derived.Test.YtpkakapbepkfdaaL1L
set_option linter.unusedVariables false
set_option linter.unusedSimpArgs false
set_option maxRecDepth 10000
namespace Go.Proofs.Ytpkakapbepkfdaa
open Go Go.Am

/-- Chance's answer in awake. -/
def extK (f : FuncId) : List AV → Option AV
  | [.agg [.lst [[.lst []], [.lst [[.int .i64 0]]]], .lst [[.lst [[.int .i64 8]]], [.lst [[.int .i64 4], [.int .i64 12]]]]], .lst [[.int .i64 0, .int .i64 1]], .lst [[.int .i64 1, .int .i64 1]]] =>
    if f = 23 then some (.tup [.agg [I 3, I 4], I 0]) else none
  | _ => none
def cfgK : Cfg := { cfg with ext := extK }
theorem chance_a : chanceR [[], [0]] [[8], [4, 12]] [(0, 1)] [(1, 1)] = .tup [.agg [I 3, I 4], I 0] := by kernel_rfl
theorem hextK : ExtOk Try.prog cfgK := by
  intro f args r he
  have he : extK f args = some r := he
  unfold extK at he
  split at he
  · split at he
    · rename_i hf
      cases he
      subst hf
      refine ⟨?_, fun _ => rfl⟩
      rw [← chance_a]
      exact f23_pure [[], [0]] [[8], [4, 12]] [(0, 1)] [(1, 1)] ⟨by decide, by decide⟩ ⟨by decide, by decide⟩ (by decide) (by decide)
    · cases he
  · cases he
theorem f20_run : callP Try.prog cfgK 500 20 [] = some (.bool true) := by kernel_rfl
theorem f20_pure : PureOk Try.prog 20 [] (.bool true) := (sound hextK 500).2.2.1 _ _ _ f20_run

end Go.Proofs.Ytpkakapbepkfdaa
