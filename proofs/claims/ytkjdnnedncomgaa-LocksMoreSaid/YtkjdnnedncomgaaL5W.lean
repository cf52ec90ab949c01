/-
  The program's few simple results, worked out.
-/
import Derived.Test.YtkjdnnedncomgaaL5Facts
set_option linter.unusedVariables false
namespace Go.Proofs.Ytkjdnnedncomgaa
open Go Go.Am

theorem f17_con : Con Try.prog cfg 17 [] (.bool true) := ⟨400, by kernel_rfl⟩
@[go_sem] theorem k17 {h h' : Hp} {K : AV → Hp → Prop} : ConW Try.prog cfg 17 h (some ([], h')) K = K (.bool true) h := ConW_num f17_con rfl
end Go.Proofs.Ytkjdnnedncomgaa
