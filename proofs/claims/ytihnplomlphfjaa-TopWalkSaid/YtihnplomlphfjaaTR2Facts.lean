/-
  The values of the chain of TopWalk: run, for a = 2.
-/
import Derived.Test.YtihnplomlphfjaaTM3
set_option linter.unusedVariables false
set_option maxRecDepth 10000
namespace Go.Proofs.Ytihnplomlphfjaa
open Go Go.Am

theorem rule_2_0 : callP Try.prog cfgT 300 13 [chainW 2 0, LI [4, 5]] = some (.tup [valsW 2 0, I 0]) := by kernel_rfl
theorem rule_2_1 : callP Try.prog cfgT 300 13 [chainW 2 1, LI [4, 5]] = some (.tup [valsW 2 1, I 0]) := by kernel_rfl
theorem rule_2_2 : callP Try.prog cfgT 300 13 [chainW 2 2, LI [4, 5]] = some (.tup [valsW 2 2, I 0]) := by kernel_rfl
theorem rule_2_3 : callP Try.prog cfgT 300 13 [chainW 2 3, LI [4, 5]] = some (.tup [valsW 2 3, I 0]) := by kernel_rfl
theorem rule_2_4 : callP Try.prog cfgT 300 13 [chainW 2 4, LI [4, 5]] = some (.tup [valsW 2 4, I 0]) := by kernel_rfl
end Go.Proofs.Ytihnplomlphfjaa
