/-
  'StopMore': whatever the input, it returns true, and the input reads as it did.
-/
import Derived.Test.YtgamcclfdkpcgaaL2M3
import Derived.Test.YtgamcclfdkpcgaaAmEnd
set_option linter.unusedVariables false
set_option linter.unusedSimpArgs false
namespace Go.Proofs.Ytgamcclfdkpcgaa
open Go Go.Am Go.ChangeShapes Go.WideShapes Go.ChangeAt Go.RowKit

theorem Try.own : ownKnob Try.prog.godebug = none := by kernel_rfl
theorem Try.laidOut : laidOutB Try.prog = true := by kernel_rfl

theorem rd_map {α β : Type} {t : TypeId} {g : α → Prop} {f : α → List AV} {g' : β → Prop} {f' : β → List AV} (h : Rd Try.prog t g f) (k : ∀ x, g x → ∃ y, g' y ∧ f' y = f x) : Rd Try.prog t g' f' := by
  intro H enc w held fuel cs x hx
  obtain ⟨a, ga, ra⟩ := h hx
  obtain ⟨b, gb, e⟩ := k a ga
  exact ⟨b, gb, by rw [e]; exact ra⟩
theorem rdA2 : Rd Try.prog 26 (fun xs : List Int => xs.length = 2 ∧ ∀ x ∈ xs, Go.Am.ok64 x) (fun xs => xs.map I) := Rd.arr und26 (by kernel_rfl) (by kernel_rfl) und3
theorem rdPr2 : Rd Try.prog 26 (fun q : Int × Int => Go.Am.ok64 q.1 ∧ Go.Am.ok64 q.2) eP := rd_map rdA2 (by
  rintro xs ⟨hl, hx⟩
  match xs, hl with
  | [a, b], _ => exact ⟨(a, b), ⟨hx a (by simp), hx b (by simp)⟩, rfl⟩)


set_option maxRecDepth 100000 in
theorem stopMore_lifted (os : Os) (started : os.Started) (H : Type) (enc : TypeId × Value → H) :
    ReturnsInHanded {} Try.checked os 3 .any (Rows.stopMoreSpec.pre6 enc Try.prog Try.f3 Rows.stopMoreRow.domain false) (Rows.stopMoreSpec.post enc Try.prog Try.f3 false true false false) := by
  refine returnsInHanded_of_change (C := Try.checked) Try.own started (by kernel_rfl) Try.func3
    (ChangeSpec.witness6 (enc := enc) (C := Try.checked) false ⟨#[], #[.agg #[.slice none 0 0,.slice none 0 0,.slice none 0 0], .agg #[.int .i64 0,.int .i64 0]], []⟩ 8 (by kernel_rfl) (by kernel_rfl) (by kernel_rfl) (by kernel_rfl)) ?_
  intro W base args ds gs before hval0 hW hcnd _
  have hval : ∀ (j : Nat) t v, Try.f3.params[j]? = some t → args[j]? = some v → Value.okWide Try.prog W .any base t v := hval0
  have hA0 : ∃ p, DataW.TrodAll enc Try.prog W 0 (fun _ => true) true Try.f3.params.toList args.toList ds p := by obtain ⟨p, q, h, _⟩ := hW; exact ⟨p, h⟩
  obtain ⟨p, hA⟩ := hA0
  rw [Try.params3] at hA hval
  obtain ⟨v0, v1, d0, d1, p0, p1, rfl, rfl, rfl, h0, h1⟩ := trodAll_two hA
  obtain ⟨a0, ga0, ra0⟩ := rdChn.arg (by rw [und25]; rfl) (fun h => by simp [isAggT, und25, aggD] at h) (hval 0 25 v0 rfl rfl) h0
  obtain ⟨a1, ga1, ra1⟩ := rdPr2.arg (by rw [und26]; rfl) (fun h => by simp [isAggT, und26, aggD] at h) (hval 1 26 v1 rfl rfl) h1
  simp only [isAggT, und25, und26, aggD, mk] at ra0 ra1
  exact law_calls (cfg := cfgO) hextO Try.laidOut (by kernel_rfl) (by kernel_rfl) und4 rfl ⟨rfl, rfl, rfl⟩ hW
    ⟨_, args_two ra0 ra1, f3_con a0.1 a0.2.1 a0.2.2 a1.1 a1.2 (okN.of ga0)⟩

theorem stopMore_holds : Rows.StopMoreSaid :=
  OpenClaim.holds_of_wide 3 Try.f3 rfl rfl rfl rfl rfl rfl rfl ⟨rfl, rfl, rfl, rfl, rfl⟩ rfl rfl rfl rfl rfl (by kernel_rfl) Try.func3 (by kernel_rfl)
    (of_decide_eq_true (by kernel_rfl)) (by unfold Func.isWrapper; first | (rw [if_pos (by decide +kernel)]; kernel_rfl) | (rw [if_neg (by decide +kernel)]; exact ⟨rfl, rfl⟩))
    (fun os started H enc _ => stopMore_lifted os started H enc)

end Go.Proofs.Ytgamcclfdkpcgaa
