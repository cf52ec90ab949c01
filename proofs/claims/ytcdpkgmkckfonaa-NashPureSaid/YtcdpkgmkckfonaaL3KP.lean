/-
  'NashPure': whatever the input, it returns true, and the input reads as it did.
-/
import Derived.Test.YtcdpkgmkckfonaaL3M3
import Derived.Test.YtcdpkgmkckfonaaAmEnd
set_option linter.unusedVariables false
set_option linter.unusedSimpArgs false
namespace Go.Proofs.Ytcdpkgmkckfonaa
open Go Go.Am Go.ChangeShapes Go.WideShapes Go.ChangeAt Go.RowKit

theorem Try.own : ownKnob Try.prog.godebug = none := by kernel_rfl
theorem Try.laidOut : laidOutB Try.prog = true := by kernel_rfl


set_option maxRecDepth 100000 in
theorem nashPure_lifted (os : Os) (started : os.Started) (H : Type) (enc : TypeId × Value → H) :
    ReturnsInHanded {} Try.checked os 5 .any (Rows.nashPureSpec.pre6 enc Try.prog Try.f5 Rows.nashPureRow.domain false) (Rows.nashPureSpec.post enc Try.prog Try.f5 false true false false) := by
  refine returnsInHanded_of_change (C := Try.checked) Try.own started (by kernel_rfl) Try.func5
    (ChangeSpec.witness6 (enc := enc) (C := Try.checked) false ⟨#[], #[.agg #[.slice none 0 0,.slice none 0 0]], []⟩ 8 (by kernel_rfl) (by kernel_rfl) (by kernel_rfl) (by kernel_rfl)) ?_
  intro W base args ds gs before hval0 hW hcnd _
  have hval : ∀ (j : Nat) t v, Try.f5.params[j]? = some t → args[j]? = some v → Value.okWide Try.prog W .any base t v := hval0
  have hA0 : ∃ p, DataW.TrodAll enc Try.prog W 0 (fun _ => true) true Try.f5.params.toList args.toList ds p := by obtain ⟨p, q, h, _⟩ := hW; exact ⟨p, h⟩
  obtain ⟨p, hA⟩ := hA0
  rw [Try.params5] at hA hval
  obtain ⟨v0, d0, rfl, rfl, h0⟩ := trodAll_one hA
  obtain ⟨a0, ga0, ra0⟩ := rdGm.arg (by rw [und25]; rfl) (fun h => by simp [isAggT, und25, aggD] at h) (hval 0 25 v0 rfl rfl) h0
  simp only [isAggT, und25, aggD, mk] at ra0
  exact law_calls (cfg := cfgW) hextW Try.laidOut (by kernel_rfl) (by kernel_rfl) und4 rfl ⟨rfl, rfl, rfl⟩ hW
    ⟨_, args_one ra0, f5_con a0.1 a0.2 (okLL.of ga0.1) (okLL.of ga0.2)⟩

theorem nashPure_holds : Rows.NashPureSaid :=
  OpenClaim.holds_of_wide 5 Try.f5 rfl rfl rfl rfl rfl rfl rfl ⟨rfl, rfl, rfl, rfl, rfl⟩ rfl rfl rfl rfl rfl (by kernel_rfl) Try.func5 (by kernel_rfl)
    (of_decide_eq_true (by kernel_rfl)) (by unfold Func.isWrapper; first | (rw [if_pos (by decide +kernel)]; kernel_rfl) | (rw [if_neg (by decide +kernel)]; exact ⟨rfl, rfl⟩))
    (fun os started H enc _ => nashPure_lifted os started H enc)

end Go.Proofs.Ytcdpkgmkckfonaa
