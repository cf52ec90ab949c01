/-
  The values of the chain of TopWalk: run, for a = 3.
-/
import Derived.Test.YtihnplomlphfjaaTM3
set_option linter.unusedVariables false
set_option maxRecDepth 10000
namespace Go.Proofs.Ytihnplomlphfjaa
open Go Go.Am

theorem rule_3_0 : callP Try.prog cfgT 300 13 [chainW 3 0, LI [4, 5]] = some (.tup [valsW 3 0, I 0]) := by kernel_rfl
theorem rule_3_1 : callP Try.prog cfgT 300 13 [chainW 3 1, LI [4, 5]] = some (.tup [valsW 3 1, I 0]) := by kernel_rfl
theorem rule_3_2 : callP Try.prog cfgT 300 13 [chainW 3 2, LI [4, 5]] = some (.tup [valsW 3 2, I 0]) := by kernel_rfl
theorem rule_3_3 : callP Try.prog cfgT 300 13 [chainW 3 3, LI [4, 5]] = some (.tup [valsW 3 3, I 0]) := by kernel_rfl
theorem rule_3_4 : callP Try.prog cfgT 300 13 [chainW 3 4, LI [4, 5]] = some (.tup [valsW 3 4, I 0]) := by kernel_rfl
end Go.Proofs.Ytihnplomlphfjaa
