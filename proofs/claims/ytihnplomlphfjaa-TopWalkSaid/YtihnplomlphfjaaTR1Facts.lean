/-
  The values of the chain of TopWalk: run, for a = 1.
-/
import Derived.Test.YtihnplomlphfjaaTM3
set_option linter.unusedVariables false
set_option maxRecDepth 10000
namespace Go.Proofs.Ytihnplomlphfjaa
open Go Go.Am

theorem rule_1_0 : callP Try.prog cfgT 300 13 [chainW 1 0, LI [4, 5]] = some (.tup [valsW 1 0, I 0]) := by kernel_rfl
theorem rule_1_1 : callP Try.prog cfgT 300 13 [chainW 1 1, LI [4, 5]] = some (.tup [valsW 1 1, I 0]) := by kernel_rfl
theorem rule_1_2 : callP Try.prog cfgT 300 13 [chainW 1 2, LI [4, 5]] = some (.tup [valsW 1 2, I 0]) := by kernel_rfl
theorem rule_1_3 : callP Try.prog cfgT 300 13 [chainW 1 3, LI [4, 5]] = some (.tup [valsW 1 3, I 0]) := by kernel_rfl
theorem rule_1_4 : callP Try.prog cfgT 300 13 [chainW 1 4, LI [4, 5]] = some (.tup [valsW 1 4, I 0]) := by kernel_rfl
end Go.Proofs.Ytihnplomlphfjaa
