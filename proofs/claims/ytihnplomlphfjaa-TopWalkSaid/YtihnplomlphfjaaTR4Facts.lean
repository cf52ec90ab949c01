/-
  The values of the chain of TopWalk: run, for a = 4.
-/
import Derived.Test.YtihnplomlphfjaaTM3
set_option linter.unusedVariables false
set_option maxRecDepth 10000
namespace Go.Proofs.Ytihnplomlphfjaa
open Go Go.Am

theorem rule_4_0 : callP Try.prog cfgT 300 13 [chainW 4 0, LI [4, 5]] = some (.tup [valsW 4 0, I 0]) := by kernel_rfl
theorem rule_4_1 : callP Try.prog cfgT 300 13 [chainW 4 1, LI [4, 5]] = some (.tup [valsW 4 1, I 0]) := by kernel_rfl
theorem rule_4_2 : callP Try.prog cfgT 300 13 [chainW 4 2, LI [4, 5]] = some (.tup [valsW 4 2, I 0]) := by kernel_rfl
theorem rule_4_3 : callP Try.prog cfgT 300 13 [chainW 4 3, LI [4, 5]] = some (.tup [valsW 4 3, I 0]) := by kernel_rfl
theorem rule_4_4 : callP Try.prog cfgT 300 13 [chainW 4 4, LI [4, 5]] = some (.tup [valsW 4 4, I 0]) := by kernel_rfl
end Go.Proofs.Ytihnplomlphfjaa
