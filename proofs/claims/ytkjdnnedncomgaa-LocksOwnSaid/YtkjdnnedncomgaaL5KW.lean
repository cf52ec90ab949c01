/-
  'LocksOwn': whatever the input, it returns true, and the input reads as it did.
-/
import Derived.Test.YtkjdnnedncomgaaL5M2
import Derived.Test.YtkjdnnedncomgaaAmEnd
set_option linter.unusedVariables false
set_option linter.unusedSimpArgs false
namespace Go.Proofs.Ytkjdnnedncomgaa
open Go Go.Am Go.ChangeShapes Go.WideShapes Go.ChangeAt Go.RowKit

theorem Try.own : ownKnob Try.prog.godebug = none := by kernel_rfl
theorem Try.laidOut : laidOutB Try.prog = true := by kernel_rfl

theorem rdI : Rd Try.prog 3 ok64 (e1 I) := Rd.int und3
theorem rdLI : Rd Try.prog 27 (fun xs : List Int => (∀ x ∈ xs, ok64 x) ∧ xs.length ≤ maxLen) (e1 LI) := Rd.sl und27 (by kernel_rfl) rdI (fun _ => rfl) (by decide)
theorem rdLLI : Rd Try.prog 22 (fun xss : List (List Int) => (∀ xs ∈ xss, (∀ x ∈ xs, ok64 x) ∧ xs.length ≤ maxLen) ∧ xss.length ≤ maxLen) (e1 LLI) := Rd.sl und22 (by kernel_rfl) rdLI (fun _ => rfl) (by decide)
theorem rdA2 : Rd Try.prog 23 (fun xs : List Int => xs.length = 2 ∧ ∀ x ∈ xs, ok64 x) (fun xs => xs.map I) := Rd.arr und23 (by kernel_rfl) (by kernel_rfl) und3
theorem rdA3 : Rd Try.prog 58 (fun xs : List Int => xs.length = 3 ∧ ∀ x ∈ xs, ok64 x) (fun xs => xs.map I) := Rd.arr und58 (by kernel_rfl) (by kernel_rfl) und3
theorem rdA5 : Rd Try.prog 51 (fun xs : List Int => xs.length = 5 ∧ ∀ x ∈ xs, ok64 x) (fun xs => xs.map I) := Rd.arr und51 (by kernel_rfl) (by kernel_rfl) und3
theorem okM_of {a : List (List Int)} (h : (∀ xs ∈ a, (∀ x ∈ xs, ok64 x) ∧ xs.length ≤ maxLen) ∧ a.length ≤ maxLen) : okM a :=
  ⟨⟨h.2, fun r hr => (h.1 r hr).2⟩, fun r hr x hx => (h.1 r hr).1 x hx⟩

set_option maxRecDepth 100000 in
theorem locksOwn_lifted (os : Os) (started : os.Started) (H : Type) (enc : TypeId × Value → H) :
    ReturnsInHanded {} Try.checked os 10 .any (Rows.locksOwnSpec.pre6 enc Try.prog Try.f10 Rows.locksOwnRow.domain false) (Rows.locksOwnSpec.post enc Try.prog Try.f10 false true false false) := by
  refine returnsInHanded_of_change (C := Try.checked) Try.own started (by kernel_rfl) Try.func10
    (ChangeSpec.witness6 (enc := enc) (C := Try.checked) false ⟨#[], #[.slice none 0 0, .int .i64 0], []⟩ 8 (by kernel_rfl) (by kernel_rfl) (by kernel_rfl) (by kernel_rfl)) ?_
  intro W base args ds gs before hval0 hW hcnd _
  have hval : ∀ (j : Nat) t v, Try.f10.params[j]? = some t → args[j]? = some v → Value.okWide Try.prog W .any base t v := hval0
  have hA0 : ∃ p, DataW.TrodAll enc Try.prog W 0 (fun _ => true) true Try.f10.params.toList args.toList ds p := by obtain ⟨p, q, h, _⟩ := hW; exact ⟨p, h⟩
  obtain ⟨p, hA⟩ := hA0
  rw [Try.params10] at hA hval
  obtain ⟨v0, v1, d0, d1, p0, p1, rfl, rfl, rfl, h0, h1⟩ := trodAll_two hA
  obtain ⟨a0, ga0, ra0⟩ := rdLLI.arg (by rw [und22]; rfl) (fun _ _ => rfl) (hval 0 22 v0 rfl rfl) h0
  obtain ⟨a1, ga1, ra1⟩ := rdI.arg (by rw [und3]; rfl) (fun _ _ => rfl) (hval 1 3 v1 rfl rfl) h1
  simp only [isAggT, und22, und3, aggD, mk] at ra0 ra1
  exact law_calls (cfg := cfgL) hextL Try.laidOut (by kernel_rfl) (by kernel_rfl) und4 rfl ⟨rfl, rfl, rfl⟩ hW
    ⟨_, args_two ra0 ra1, f10_con a0 a1 (okM_of ga0) ga1⟩

theorem locksOwn_holds : Rows.LocksOwnSaid :=
  OpenClaim.holds_of_wide 10 Try.f10 rfl rfl rfl rfl rfl rfl rfl ⟨rfl, rfl, rfl, rfl, rfl⟩ rfl rfl rfl rfl rfl (by kernel_rfl) Try.func10 (by kernel_rfl)
    (of_decide_eq_true (by kernel_rfl)) (by unfold Func.isWrapper; first | (rw [if_pos (by decide +kernel)]; kernel_rfl) | (rw [if_neg (by decide +kernel)]; exact ⟨rfl, rfl⟩))
    (fun os started H enc _ => locksOwn_lifted os started H enc)

end Go.Proofs.Ytkjdnnedncomgaa
