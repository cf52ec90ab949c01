/-
  'TopProphet': whatever the input, it returns true, and the input reads as it did.
-/
import Derived.Test.YtihnplomlphfjaaTM3
import Derived.Test.YtihnplomlphfjaaAmEnd
set_option linter.unusedVariables false
set_option linter.unusedSimpArgs false
namespace Go.Proofs.Ytihnplomlphfjaa
open Go Go.Am Go.ChangeShapes Go.WideShapes Go.ChangeAt Go.RowKit

theorem Try.own : ownKnob Try.prog.godebug = none := by kernel_rfl
theorem Try.laidOut : laidOutB Try.prog = true := by kernel_rfl

theorem rdI : Rd Try.prog 3 Go.Am.ok64 (e1 I) := Rd.int B.und3
theorem rdLI : Rd Try.prog 23 (fun xs : List Int => (∀ x ∈ xs, Go.Am.ok64 x) ∧ xs.length ≤ maxLen) (e1 LI) := Rd.sl B.und25 (by kernel_rfl) rdI (fun _ => rfl) (by decide)
theorem rd_map {α β : Type} {t : TypeId} {g : α → Prop} {f : α → List AV} {g' : β → Prop} {f' : β → List AV} (h : Rd Try.prog t g f) (k : ∀ x, g x → ∃ y, g' y ∧ f' y = f x) : Rd Try.prog t g' f' := by
  intro H enc w held fuel cs x hx
  obtain ⟨a, ga, ra⟩ := h hx
  obtain ⟨b, gb, e⟩ := k a ga
  exact ⟨b, gb, by rw [e]; exact ra⟩
theorem rdA2 : Rd Try.prog 29 (fun xs : List Int => xs.length = 2 ∧ ∀ x ∈ xs, Go.Am.ok64 x) (fun xs => xs.map I) := Rd.arr B.und46 (by kernel_rfl) (by kernel_rfl) B.und3
theorem rdPair : Rd Try.prog 29 (fun q : Int × Int => Go.Am.ok64 q.1 ∧ Go.Am.ok64 q.2) eP := rd_map rdA2 (by
  rintro xs ⟨hl, hx⟩
  match xs, hl with
  | [a, b], _ => exact ⟨(a, b), ⟨hx a (by simp), hx b (by simp)⟩, rfl⟩)
theorem rdLP : Rd Try.prog 22 (fun fs : List (Int × Int) => (∀ q ∈ fs, Go.Am.ok64 q.1 ∧ Go.Am.ok64 q.2) ∧ fs.length ≤ maxLen) (e1 LP) := Rd.sl (sz := 2) B.und38 (by kernel_rfl) rdPair (fun _ => rfl) (by decide)

set_option maxRecDepth 100000 in
theorem topProphet_lifted (os : Os) (started : os.Started) (H : Type) (enc : TypeId × Value → H) :
    ReturnsInHanded {} Try.checked os 3 .any (Rows.topProphetSpec.pre6 enc Try.prog Try.f3 Rows.topProphetRow.domain false) (Rows.topProphetSpec.post enc Try.prog Try.f3 false true false false) := by
  refine returnsInHanded_of_change (C := Try.checked) Try.own started (by kernel_rfl) Try.func3
    (ChangeSpec.witness6 (enc := enc) (C := Try.checked) false ⟨#[], #[.slice none 0 0, .slice none 0 0, .int .i64 0], []⟩ 8 (by kernel_rfl) (by kernel_rfl) (by kernel_rfl) (by kernel_rfl)) ?_
  intro W base args ds gs before hval0 hW hcnd _
  have hval : ∀ (j : Nat) t v, Try.f3.params[j]? = some t → args[j]? = some v → Value.okWide Try.prog W .any base t v := hval0
  have hA0 : ∃ p, DataW.TrodAll enc Try.prog W 0 (fun _ => true) true Try.f3.params.toList args.toList ds p := by obtain ⟨p, q, h, _⟩ := hW; exact ⟨p, h⟩
  obtain ⟨p, hA⟩ := hA0
  rw [Try.params3] at hA hval
  obtain ⟨v0, v1, v2, d0, d1, d2, p0, p1, p2, rfl, rfl, rfl, h0, h1, h2⟩ := trodAll_three hA
  obtain ⟨a0, ga0, ra0⟩ := rdLP.arg (by rw [B.und38]; rfl) (fun _ _ => rfl) (hval 0 22 v0 rfl rfl) h0
  obtain ⟨a1, ga1, ra1⟩ := rdLI.arg (by rw [B.und25]; rfl) (fun _ _ => rfl) (hval 1 23 v1 rfl rfl) h1
  obtain ⟨a2, ga2, ra2⟩ := rdI.arg (by rw [B.und3]; rfl) (fun _ _ => rfl) (hval 2 3 v2 rfl rfl) h2
  simp only [isAggT, B.und38, B.und25, B.und3, aggD, mk] at ra0 ra1 ra2
  exact law_calls (cfg := cfgP) hextP Try.laidOut (by kernel_rfl) (by kernel_rfl) B.und4 rfl ⟨rfl, rfl, rfl⟩ hW
    ⟨_, args_three ra0 ra1 ra2, f3_con a0 a1 a2 ga0.2 ga1.2⟩

theorem topProphet_holds : Rows.TopProphetSaid :=
  OpenClaim.holds_of_wide 3 Try.f3 rfl rfl rfl rfl rfl rfl rfl ⟨rfl, rfl, rfl, rfl, rfl⟩ rfl rfl rfl rfl rfl (by kernel_rfl) Try.func3 (by kernel_rfl)
    (of_decide_eq_true (by kernel_rfl)) (by unfold Func.isWrapper; first | (rw [if_pos (by decide +kernel)]; kernel_rfl) | (rw [if_neg (by decide +kernel)]; exact ⟨rfl, rfl⟩))
    (fun os started H enc _ => topProphet_lifted os started H enc)

end Go.Proofs.Ytihnplomlphfjaa
