/-
  'BayesOwn': whatever the input, it returns true, and the input reads as it did.
-/
import Derived.Test.YtpkakapbepkfdaaL1M3
import Derived.Test.YtpkakapbepkfdaaAmEnd
set_option linter.unusedVariables false
set_option linter.unusedSimpArgs false
namespace Go.Proofs.Ytpkakapbepkfdaa
open Go Go.Am Go.ChangeShapes Go.WideShapes Go.ChangeAt Go.RowKit

theorem Try.own : ownKnob Try.prog.godebug = none := by kernel_rfl
theorem Try.laidOut : laidOutB Try.prog = true := by kernel_rfl

theorem rdI : Rd Try.prog 3 Go.Am.ok64 (e1 I) := Rd.int und3
theorem rdLI : Rd Try.prog 25 (fun xs : List Int => (∀ x ∈ xs, Go.Am.ok64 x) ∧ xs.length ≤ maxLen) (e1 LI) := Rd.sl und25 (by kernel_rfl) rdI (fun _ => rfl) (by decide)
theorem rdLLI : Rd Try.prog 22 (fun xss : List (List Int) => (∀ xs ∈ xss, (∀ x ∈ xs, Go.Am.ok64 x) ∧ xs.length ≤ maxLen) ∧ xss.length ≤ maxLen) (e1 LLI) := Rd.sl und22 (by kernel_rfl) rdLI (fun _ => rfl) (by decide)
theorem rdNet : Rd Try.prog 24 (fun x : List (List Int) × List (List Int) => ((∀ xs ∈ x.1, (∀ x ∈ xs, Go.Am.ok64 x) ∧ xs.length ≤ maxLen) ∧ x.1.length ≤ maxLen) ∧ ((∀ xs ∈ x.2, (∀ x ∈ xs, Go.Am.ok64 x) ∧ xs.length ≤ maxLen) ∧ x.2.length ≤ maxLen)) (fun x => e1 LLI x.1 ++ e1 LLI x.2) :=
  Rd.two und24 rfl rfl (by kernel_rfl) (by kernel_rfl) (by kernel_rfl) rdLLI rdLLI (fun _ => rfl) (fun _ => rfl)
theorem okLL_of {a : List (List Int)} (h : (∀ xs ∈ a, (∀ x ∈ xs, Go.Am.ok64 x) ∧ xs.length ≤ maxLen) ∧ a.length ≤ maxLen) : okLL a := ⟨h.2, fun r hr => (h.1 r hr).2⟩
theorem rd_map {α β : Type} {t : TypeId} {g : α → Prop} {f : α → List AV} {g' : β → Prop} {f' : β → List AV} (h : Rd Try.prog t g f) (k : ∀ x, g x → ∃ y, g' y ∧ f' y = f x) : Rd Try.prog t g' f' := by
  intro H enc w held fuel cs x hx
  obtain ⟨a, ga, ra⟩ := h hx
  obtain ⟨b, gb, e⟩ := k a ga
  exact ⟨b, gb, by rw [e]; exact ra⟩
theorem rdA2 : Rd Try.prog 46 (fun xs : List Int => xs.length = 2 ∧ ∀ x ∈ xs, Go.Am.ok64 x) (fun xs => xs.map I) := Rd.arr und46 (by kernel_rfl) (by kernel_rfl) und3
theorem rdPair : Rd Try.prog 46 (fun q : Int × Int => Go.Am.ok64 q.1 ∧ Go.Am.ok64 q.2) eP := rd_map rdA2 (by
  rintro xs ⟨hl, hx⟩
  match xs, hl with
  | [a, b], _ => exact ⟨(a, b), ⟨hx a (by simp), hx b (by simp)⟩, rfl⟩)
theorem rdFacts : Rd Try.prog 38 (fun fs : List (Int × Int) => (∀ q ∈ fs, Go.Am.ok64 q.1 ∧ Go.Am.ok64 q.2) ∧ fs.length ≤ maxLen) (e1 LP) := Rd.sl (sz := 2) und38 (by kernel_rfl) rdPair (fun _ => rfl) (by decide)
theorem rdAsk : Rd Try.prog 40 (fun x : List (Int × Int) × List (Int × Int) => ((∀ q ∈ x.1, Go.Am.ok64 q.1 ∧ Go.Am.ok64 q.2) ∧ x.1.length ≤ maxLen) ∧ ((∀ q ∈ x.2, Go.Am.ok64 q.1 ∧ Go.Am.ok64 q.2) ∧ x.2.length ≤ maxLen)) (fun x => e1 LP x.1 ++ e1 LP x.2) :=
  Rd.two und40 rfl rfl (by kernel_rfl) (by kernel_rfl) (by kernel_rfl) rdFacts rdFacts (fun _ => rfl) (fun _ => rfl)

set_option maxRecDepth 100000 in
theorem bayesOwn_lifted (os : Os) (started : os.Started) (H : Type) (enc : TypeId × Value → H) :
    ReturnsInHanded {} Try.checked os 15 .any (Rows.bayesOwnSpec.pre6 enc Try.prog Try.f15 Rows.bayesOwnRow.domain false) (Rows.bayesOwnSpec.post enc Try.prog Try.f15 false true false false) := by
  refine returnsInHanded_of_change (C := Try.checked) Try.own started (by kernel_rfl) Try.func15
    (ChangeSpec.witness6 (enc := enc) (C := Try.checked) false ⟨#[], #[.agg #[.slice none 0 0,.slice none 0 0], .int .i64 0], []⟩ 8 (by kernel_rfl) (by kernel_rfl) (by kernel_rfl) (by kernel_rfl)) ?_
  intro W base args ds gs before hval0 hW hcnd _
  have hval : ∀ (j : Nat) t v, Try.f15.params[j]? = some t → args[j]? = some v → Value.okWide Try.prog W .any base t v := hval0
  have hA0 : ∃ p, DataW.TrodAll enc Try.prog W 0 (fun _ => true) true Try.f15.params.toList args.toList ds p := by obtain ⟨p, q, h, _⟩ := hW; exact ⟨p, h⟩
  obtain ⟨p, hA⟩ := hA0
  rw [Try.params15] at hA hval
  obtain ⟨v0, v1, d0, d1, p0, p1, rfl, rfl, rfl, h0, h1⟩ := trodAll_two hA
  obtain ⟨a0, ga0, ra0⟩ := rdNet.arg (by rw [und24]; rfl) (fun h => by simp [isAggT, und24, aggD] at h) (hval 0 24 v0 rfl rfl) h0
  obtain ⟨a1, ga1, ra1⟩ := rdI.arg (by rw [und3]; rfl) (fun _ _ => rfl) (hval 1 3 v1 rfl rfl) h1
  simp only [isAggT, und24, und3, aggD, mk] at ra0 ra1
  exact law_calls (cfg := cfgD) hextD Try.laidOut (by kernel_rfl) (by kernel_rfl) und4 rfl ⟨rfl, rfl, rfl⟩ hW
    ⟨_, args_two ra0 ra1, f15_con a0.1 a0.2 a1 (okLL_of ga0.1) (okLL_of ga0.2)⟩

theorem bayesOwn_holds : Rows.BayesOwnSaid :=
  OpenClaim.holds_of_wide 15 Try.f15 rfl rfl rfl rfl rfl rfl rfl ⟨rfl, rfl, rfl, rfl, rfl⟩ rfl rfl rfl rfl rfl (by kernel_rfl) Try.func15 (by kernel_rfl)
    (of_decide_eq_true (by kernel_rfl)) (by unfold Func.isWrapper; first | (rw [if_pos (by decide +kernel)]; kernel_rfl) | (rw [if_neg (by decide +kernel)]; exact ⟨rfl, rfl⟩))
    (fun os started H enc _ => bayesOwn_lifted os started H enc)

end Go.Proofs.Ytpkakapbepkfdaa
