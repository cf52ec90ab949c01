/-
  TopWalk: the rest of the statement, run, for from = 0.
-/
import Derived.Test.YtihnplomlphfjaaTV
set_option linter.unusedVariables false
set_option maxRecDepth 10000
namespace Go.Proofs.Ytihnplomlphfjaa
open Go Go.Am

theorem chk_0_0_0 (x y z : Int) : chkW x y z 0 0 0 = true := by kernel_rfl
theorem chk_0_0_1 (x y z : Int) : chkW x y z 0 0 1 = true := by kernel_rfl
theorem chk_0_0_2 (x y z : Int) : chkW x y z 0 0 2 = true := by kernel_rfl
theorem chk_0_0_3 (x y z : Int) : chkW x y z 0 0 3 = true := by kernel_rfl
theorem chk_0_0_4 (x y z : Int) : chkW x y z 0 0 4 = true := by kernel_rfl
theorem chk_0_1_0 (x y z : Int) : chkW x y z 0 1 0 = true := by kernel_rfl
theorem chk_0_1_1 (x y z : Int) : chkW x y z 0 1 1 = true := by kernel_rfl
theorem chk_0_1_2 (x y z : Int) : chkW x y z 0 1 2 = true := by kernel_rfl
theorem chk_0_1_3 (x y z : Int) : chkW x y z 0 1 3 = true := by kernel_rfl
theorem chk_0_1_4 (x y z : Int) : chkW x y z 0 1 4 = true := by kernel_rfl
theorem chk_0_2_0 (x y z : Int) : chkW x y z 0 2 0 = true := by kernel_rfl
theorem chk_0_2_1 (x y z : Int) : chkW x y z 0 2 1 = true := by kernel_rfl
theorem chk_0_2_2 (x y z : Int) : chkW x y z 0 2 2 = true := by kernel_rfl
theorem chk_0_2_3 (x y z : Int) : chkW x y z 0 2 3 = true := by kernel_rfl
theorem chk_0_2_4 (x y z : Int) : chkW x y z 0 2 4 = true := by kernel_rfl
theorem chk_0_3_0 (x y z : Int) : chkW x y z 0 3 0 = true := by kernel_rfl
theorem chk_0_3_1 (x y z : Int) : chkW x y z 0 3 1 = true := by kernel_rfl
theorem chk_0_3_2 (x y z : Int) : chkW x y z 0 3 2 = true := by kernel_rfl
theorem chk_0_3_3 (x y z : Int) : chkW x y z 0 3 3 = true := by kernel_rfl
theorem chk_0_3_4 (x y z : Int) : chkW x y z 0 3 4 = true := by kernel_rfl
theorem chk_0_4_0 (x y z : Int) : chkW x y z 0 4 0 = true := by kernel_rfl
theorem chk_0_4_1 (x y z : Int) : chkW x y z 0 4 1 = true := by kernel_rfl
theorem chk_0_4_2 (x y z : Int) : chkW x y z 0 4 2 = true := by kernel_rfl
theorem chk_0_4_3 (x y z : Int) : chkW x y z 0 4 3 = true := by kernel_rfl
theorem chk_0_4_4 (x y z : Int) : chkW x y z 0 4 4 = true := by kernel_rfl
end Go.Proofs.Ytihnplomlphfjaa
