/-
  'TopWalk' answers true.
-/
import Derived.Test.YtihnplomlphfjaaTW0Facts
import Derived.Test.YtihnplomlphfjaaTW1Facts
set_option linter.unusedVariables false
set_option linter.unusedSimpArgs false
set_option maxRecDepth 10000
namespace Go.Proofs.Ytihnplomlphfjaa
open Go Go.Am

theorem f4_con (x y z : Int) : Con Try.prog cfgV 4 [I x, .agg [I y, I z]] (.bool true) := by
  have h1 := modI_bounds x (n := 2) (by omega)
  have h2 := modI_bounds y (n := 5) (by omega)
  have h3 := modI_bounds z (n := 5) (by omega)
  refine f4_try x y z _ _ _ rfl rfl rfl ?_
  generalize modI x 2 = f at *
  generalize modI y 5 = a at *
  generalize modI z 5 = b at *
  rcases (by omega : f = 0 ∨ f = 1) with rfl | rfl <;> rcases (by omega : a = 0 ∨ a = 1 ∨ a = 2 ∨ a = 3 ∨ a = 4) with rfl | rfl | rfl | rfl | rfl <;> rcases (by omega : b = 0 ∨ b = 1 ∨ b = 2 ∨ b = 3 ∨ b = 4) with rfl | rfl | rfl | rfl | rfl
  · exact chk_0_0_0 x y z
  · exact chk_0_0_1 x y z
  · exact chk_0_0_2 x y z
  · exact chk_0_0_3 x y z
  · exact chk_0_0_4 x y z
  · exact chk_0_1_0 x y z
  · exact chk_0_1_1 x y z
  · exact chk_0_1_2 x y z
  · exact chk_0_1_3 x y z
  · exact chk_0_1_4 x y z
  · exact chk_0_2_0 x y z
  · exact chk_0_2_1 x y z
  · exact chk_0_2_2 x y z
  · exact chk_0_2_3 x y z
  · exact chk_0_2_4 x y z
  · exact chk_0_3_0 x y z
  · exact chk_0_3_1 x y z
  · exact chk_0_3_2 x y z
  · exact chk_0_3_3 x y z
  · exact chk_0_3_4 x y z
  · exact chk_0_4_0 x y z
  · exact chk_0_4_1 x y z
  · exact chk_0_4_2 x y z
  · exact chk_0_4_3 x y z
  · exact chk_0_4_4 x y z
  · exact chk_1_0_0 x y z
  · exact chk_1_0_1 x y z
  · exact chk_1_0_2 x y z
  · exact chk_1_0_3 x y z
  · exact chk_1_0_4 x y z
  · exact chk_1_1_0 x y z
  · exact chk_1_1_1 x y z
  · exact chk_1_1_2 x y z
  · exact chk_1_1_3 x y z
  · exact chk_1_1_4 x y z
  · exact chk_1_2_0 x y z
  · exact chk_1_2_1 x y z
  · exact chk_1_2_2 x y z
  · exact chk_1_2_3 x y z
  · exact chk_1_2_4 x y z
  · exact chk_1_3_0 x y z
  · exact chk_1_3_1 x y z
  · exact chk_1_3_2 x y z
  · exact chk_1_3_3 x y z
  · exact chk_1_3_4 x y z
  · exact chk_1_4_0 x y z
  · exact chk_1_4_1 x y z
  · exact chk_1_4_2 x y z
  · exact chk_1_4_3 x y z
  · exact chk_1_4_4 x y z
end Go.Proofs.Ytihnplomlphfjaa
