/-
  TopWalk: the rest of the statement, run, for from = 1.
-/
import Derived.Test.YtihnplomlphfjaaTV
set_option linter.unusedVariables false
set_option maxRecDepth 10000
namespace Go.Proofs.Ytihnplomlphfjaa
open Go Go.Am

theorem chk_1_0_0 (x y z : Int) : chkW x y z 1 0 0 = true := by kernel_rfl
theorem chk_1_0_1 (x y z : Int) : chkW x y z 1 0 1 = true := by kernel_rfl
theorem chk_1_0_2 (x y z : Int) : chkW x y z 1 0 2 = true := by kernel_rfl
theorem chk_1_0_3 (x y z : Int) : chkW x y z 1 0 3 = true := by kernel_rfl
theorem chk_1_0_4 (x y z : Int) : chkW x y z 1 0 4 = true := by kernel_rfl
theorem chk_1_1_0 (x y z : Int) : chkW x y z 1 1 0 = true := by kernel_rfl
theorem chk_1_1_1 (x y z : Int) : chkW x y z 1 1 1 = true := by kernel_rfl
theorem chk_1_1_2 (x y z : Int) : chkW x y z 1 1 2 = true := by kernel_rfl
theorem chk_1_1_3 (x y z : Int) : chkW x y z 1 1 3 = true := by kernel_rfl
theorem chk_1_1_4 (x y z : Int) : chkW x y z 1 1 4 = true := by kernel_rfl
theorem chk_1_2_0 (x y z : Int) : chkW x y z 1 2 0 = true := by kernel_rfl
theorem chk_1_2_1 (x y z : Int) : chkW x y z 1 2 1 = true := by kernel_rfl
theorem chk_1_2_2 (x y z : Int) : chkW x y z 1 2 2 = true := by kernel_rfl
theorem chk_1_2_3 (x y z : Int) : chkW x y z 1 2 3 = true := by kernel_rfl
theorem chk_1_2_4 (x y z : Int) : chkW x y z 1 2 4 = true := by kernel_rfl
theorem chk_1_3_0 (x y z : Int) : chkW x y z 1 3 0 = true := by kernel_rfl
theorem chk_1_3_1 (x y z : Int) : chkW x y z 1 3 1 = true := by kernel_rfl
theorem chk_1_3_2 (x y z : Int) : chkW x y z 1 3 2 = true := by kernel_rfl
theorem chk_1_3_3 (x y z : Int) : chkW x y z 1 3 3 = true := by kernel_rfl
theorem chk_1_3_4 (x y z : Int) : chkW x y z 1 3 4 = true := by kernel_rfl
theorem chk_1_4_0 (x y z : Int) : chkW x y z 1 4 0 = true := by kernel_rfl
theorem chk_1_4_1 (x y z : Int) : chkW x y z 1 4 1 = true := by kernel_rfl
theorem chk_1_4_2 (x y z : Int) : chkW x y z 1 4 2 = true := by kernel_rfl
theorem chk_1_4_3 (x y z : Int) : chkW x y z 1 4 3 = true := by kernel_rfl
theorem chk_1_4_4 (x y z : Int) : chkW x y z 1 4 4 = true := by kernel_rfl
end Go.Proofs.Ytihnplomlphfjaa
