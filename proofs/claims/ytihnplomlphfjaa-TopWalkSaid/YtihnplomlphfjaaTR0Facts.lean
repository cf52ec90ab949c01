/-
  The values of the chain of TopWalk: run, for a = 0.
-/
import Derived.Test.YtihnplomlphfjaaTM3
set_option linter.unusedVariables false
set_option maxRecDepth 10000
namespace Go.Proofs.Ytihnplomlphfjaa
open Go Go.Am

theorem rule_0_0 : callP Try.prog cfgT 300 13 [chainW 0 0, LI [4, 5]] = some (.tup [valsW 0 0, I 0]) := by kernel_rfl
theorem rule_0_1 : callP Try.prog cfgT 300 13 [chainW 0 1, LI [4, 5]] = some (.tup [valsW 0 1, I 0]) := by kernel_rfl
theorem rule_0_2 : callP Try.prog cfgT 300 13 [chainW 0 2, LI [4, 5]] = some (.tup [valsW 0 2, I 0]) := by kernel_rfl
theorem rule_0_3 : callP Try.prog cfgT 300 13 [chainW 0 3, LI [4, 5]] = some (.tup [valsW 0 3, I 0]) := by kernel_rfl
theorem rule_0_4 : callP Try.prog cfgT 300 13 [chainW 0 4, LI [4, 5]] = some (.tup [valsW 0 4, I 0]) := by kernel_rfl
end Go.Proofs.Ytihnplomlphfjaa
