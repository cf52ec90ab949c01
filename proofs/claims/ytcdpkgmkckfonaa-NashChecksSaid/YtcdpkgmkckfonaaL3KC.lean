/-
  'NashChecks': whatever the input, it returns true, and the input reads as it did.
-/
import Derived.Test.YtcdpkgmkckfonaaL3M3
import Derived.Test.YtcdpkgmkckfonaaAmEnd
set_option linter.unusedVariables false
set_option linter.unusedSimpArgs false
namespace Go.Proofs.Ytcdpkgmkckfonaa
open Go Go.Am Go.ChangeShapes Go.WideShapes Go.ChangeAt Go.RowKit

theorem Try.own : ownKnob Try.prog.godebug = none := by kernel_rfl
theorem Try.laidOut : laidOutB Try.prog = true := by kernel_rfl


set_option maxRecDepth 100000 in
theorem nashChecks_lifted (os : Os) (started : os.Started) (H : Type) (enc : TypeId × Value → H) :
    ReturnsInHanded {} Try.checked os 9 .any (Rows.nashChecksSpec.pre6 enc Try.prog Try.f9 Rows.nashChecksRow.domain false) (Rows.nashChecksSpec.post enc Try.prog Try.f9 false true false false) := by
  refine returnsInHanded_of_change (C := Try.checked) Try.own started (by kernel_rfl) Try.func9
    (ChangeSpec.witness6 (enc := enc) (C := Try.checked) false ⟨#[], #[.agg #[.slice none 0 0,.slice none 0 0], .agg #[.slice none 0 0,.slice none 0 0]], []⟩ 8 (by kernel_rfl) (by kernel_rfl) (by kernel_rfl) (by kernel_rfl)) ?_
  intro W base args ds gs before hval0 hW hcnd _
  have hval : ∀ (j : Nat) t v, Try.f9.params[j]? = some t → args[j]? = some v → Value.okWide Try.prog W .any base t v := hval0
  have hA0 : ∃ p, DataW.TrodAll enc Try.prog W 0 (fun _ => true) true Try.f9.params.toList args.toList ds p := by obtain ⟨p, q, h, _⟩ := hW; exact ⟨p, h⟩
  obtain ⟨p, hA⟩ := hA0
  rw [Try.params9] at hA hval
  obtain ⟨v0, v1, d0, d1, p0, p1, rfl, rfl, rfl, h0, h1⟩ := trodAll_two hA
  obtain ⟨a0, ga0, ra0⟩ := rdGm.arg (by rw [und25]; rfl) (fun h => by simp [isAggT, und25, aggD] at h) (hval 0 25 v0 rfl rfl) h0
  obtain ⟨a1, ga1, ra1⟩ := rdMx.arg (by rw [und63]; rfl) (fun h => by simp [isAggT, und63, aggD] at h) (hval 1 63 v1 rfl rfl) h1
  simp only [isAggT, und25, und63, aggD, mk] at ra0 ra1
  exact law_calls (cfg := cfgX) hextX Try.laidOut (by kernel_rfl) (by kernel_rfl) und4 rfl ⟨rfl, rfl, rfl⟩ hW
    ⟨_, args_two ra0 ra1, f9_con a0.1 a0.2 a1.1 a1.2 (okLL.of ga0.1) (okLL.of ga0.2) ga1.1.2 ga1.2.2 (fun f hf => ok64_le (ga1.1.1 f hf).2) (fun f hf => ok64_le (ga1.2.1 f hf).2)⟩

theorem nashChecks_holds : Rows.NashChecksSaid :=
  OpenClaim.holds_of_wide 9 Try.f9 rfl rfl rfl rfl rfl rfl rfl ⟨rfl, rfl, rfl, rfl, rfl⟩ rfl rfl rfl rfl rfl (by kernel_rfl) Try.func9 (by kernel_rfl)
    (of_decide_eq_true (by kernel_rfl)) (by unfold Func.isWrapper; first | (rw [if_pos (by decide +kernel)]; kernel_rfl) | (rw [if_neg (by decide +kernel)]; exact ⟨rfl, rfl⟩))
    (fun os started H enc _ => nashChecks_lifted os started H enc)

end Go.Proofs.Ytcdpkgmkckfonaa
