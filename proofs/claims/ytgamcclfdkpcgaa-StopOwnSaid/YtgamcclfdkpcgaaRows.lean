/-
  No cell of these rows narrows 'for every input' (looked for: loops, veiled, ifaces, maps, wideKeys, modest, calm, conditions, laid).
  DERIVED. THE GIVEN ROWS OF THIS SEAT. 12 by the template 'for every input the law returns true; each argument reads behind the call as it read before'; 0 by the template 'total and deterministic' (their statements: YtgamcclfdkpcgaaTotals.lean).
  GIVEN WITH THE SEED: the statements are not yours to turn. If you find one false, say at which input.
  Laid BY PROGRAM, IN A SANDBOX (cutbox-rows.mjs): the forced cells as the released guide's own fill.sh prints them over the translation 18e2e68a5c53948b… (all of the seat's roots in one cut). By AI agents, Wed Nov 11 2026. No macro, syntax, notation, axiom, sorry.
-/
import Derived.Test.YtgamcclfdkpcgaaChecked
import GoSem.Claim
import GoSem.ClaimJoined
import GoSem.ClaimMapViews
import Derived.JoinedTies
import Derived.KernelRfl
namespace Go.Proofs.Ytgamcclfdkpcgaa
/- THE CELL 'sum', in the pinned program and in every row, IS THE sha256 OF THE DUMP (.gsa) THAT YtgamcclfdkpcgaaProg.lean LOADS. Nothing in Lean hashes anything: it is a label: what it is worth is what the hold of that sum in a sandbox is worth. -/
noncomputable def Try.pinned : Pinned := { name := "ytgamcclfdkpcgaa", sum := "18e2e68a5c53948bb30ef8e0e5e3aa1c658934c057e2ed4ebf899ec459b67fe9", checked := Try.checked }
namespace Rows
def none {H : Type} : Left H := { results := [], args := [] }

/-- 'turndownlaw02.StopMore': WHATEVER THE INPUT: true; the input reads as it did. -/
def stopMoreSpec : ChangeSpec := { name := "stopMore", fn := fun _ => fun
  | [d1, d2] => { results := [.lit (.bool true)], args := [d1, d2] }
  | _ => none }
def stopMoreRow : OpenClaim := { program := "ytgamcclfdkpcgaa", sum := "18e2e68a5c53948bb30ef8e0e5e3aa1c658934c057e2ed4ebf899ec459b67fe9", func := "turndown/turndownlaw02.StopMore", spec := "stopMore", unfollowed := true, recurses := true, apart := false }
def StopMoreSaid : Prop := stopMoreRow.holds Try.pinned (OpenSpec.ofChange stopMoreSpec)

/-- ITS FALSE NEIGHBOUR: 'it returns false'. Refute it at one input. -/
def stopMoreWrong : ChangeSpec := { name := "stopMore", fn := fun _ => fun
  | [d1, d2] => { results := [.lit (.bool false)], args := [d1, d2] }
  | _ => none }
def StopMoreWrongFalsely : Prop := stopMoreRow.holds Try.pinned (OpenSpec.ofChange stopMoreWrong)

/-- 'turndownlaw02.StopScaled': WHATEVER THE INPUT: true; the input reads as it did. -/
def stopScaledSpec : ChangeSpec := { name := "stopScaled", fn := fun _ => fun
  | [d1, d2] => { results := [.lit (.bool true)], args := [d1, d2] }
  | _ => none }
def stopScaledRow : OpenClaim := { program := "ytgamcclfdkpcgaa", sum := "18e2e68a5c53948bb30ef8e0e5e3aa1c658934c057e2ed4ebf899ec459b67fe9", func := "turndown/turndownlaw02.StopScaled", spec := "stopScaled", unfollowed := true, recurses := true, apart := false }
def StopScaledSaid : Prop := stopScaledRow.holds Try.pinned (OpenSpec.ofChange stopScaledSpec)

/-- ITS FALSE NEIGHBOUR: 'it returns false'. Refute it at one input. -/
def stopScaledWrong : ChangeSpec := { name := "stopScaled", fn := fun _ => fun
  | [d1, d2] => { results := [.lit (.bool false)], args := [d1, d2] }
  | _ => none }
def StopScaledWrongFalsely : Prop := stopScaledRow.holds Try.pinned (OpenSpec.ofChange stopScaledWrong)

/-- 'turndownlaw02.StopCandidates': WHATEVER THE INPUT: true; the input reads as it did. -/
def stopCandidatesSpec : ChangeSpec := { name := "stopCandidates", fn := fun _ => fun
  | [d1, d2] => { results := [.lit (.bool true)], args := [d1, d2] }
  | _ => none }
def stopCandidatesRow : OpenClaim := { program := "ytgamcclfdkpcgaa", sum := "18e2e68a5c53948bb30ef8e0e5e3aa1c658934c057e2ed4ebf899ec459b67fe9", func := "turndown/turndownlaw02.StopCandidates", spec := "stopCandidates", unfollowed := true, recurses := true, apart := false }
def StopCandidatesSaid : Prop := stopCandidatesRow.holds Try.pinned (OpenSpec.ofChange stopCandidatesSpec)

/-- ITS FALSE NEIGHBOUR: 'it returns false'. Refute it at one input. -/
def stopCandidatesWrong : ChangeSpec := { name := "stopCandidates", fn := fun _ => fun
  | [d1, d2] => { results := [.lit (.bool false)], args := [d1, d2] }
  | _ => none }
def StopCandidatesWrongFalsely : Prop := stopCandidatesRow.holds Try.pinned (OpenSpec.ofChange stopCandidatesWrong)

/-- 'turndownlaw02.StopOrders': WHATEVER THE INPUT: true; the input reads as it did. -/
def stopOrdersSpec : ChangeSpec := { name := "stopOrders", fn := fun _ => fun
  | [d1, d2] => { results := [.lit (.bool true)], args := [d1, d2] }
  | _ => none }
def stopOrdersRow : OpenClaim := { program := "ytgamcclfdkpcgaa", sum := "18e2e68a5c53948bb30ef8e0e5e3aa1c658934c057e2ed4ebf899ec459b67fe9", func := "turndown/turndownlaw02.StopOrders", spec := "stopOrders", unfollowed := true, recurses := true, apart := false }
def StopOrdersSaid : Prop := stopOrdersRow.holds Try.pinned (OpenSpec.ofChange stopOrdersSpec)

/-- ITS FALSE NEIGHBOUR: 'it returns false'. Refute it at one input. -/
def stopOrdersWrong : ChangeSpec := { name := "stopOrders", fn := fun _ => fun
  | [d1, d2] => { results := [.lit (.bool false)], args := [d1, d2] }
  | _ => none }
def StopOrdersWrongFalsely : Prop := stopOrdersRow.holds Try.pinned (OpenSpec.ofChange stopOrdersWrong)

/-- 'turndownlaw02.StopSecretary': WHATEVER THE INPUT: true; the input reads as it did. -/
def stopSecretarySpec : ChangeSpec := { name := "stopSecretary", fn := fun _ => fun
  | [d] => { results := [.lit (.bool true)], args := [d] }
  | _ => none }
def stopSecretaryRow : OpenClaim := { program := "ytgamcclfdkpcgaa", sum := "18e2e68a5c53948bb30ef8e0e5e3aa1c658934c057e2ed4ebf899ec459b67fe9", func := "turndown/turndownlaw02.StopSecretary", spec := "stopSecretary", unfollowed := true, recurses := true, apart := false }
def StopSecretarySaid : Prop := stopSecretaryRow.holds Try.pinned (OpenSpec.ofChange stopSecretarySpec)

/-- ITS FALSE NEIGHBOUR: 'it returns false'. Refute it at one input. -/
def stopSecretaryWrong : ChangeSpec := { name := "stopSecretary", fn := fun _ => fun
  | [d] => { results := [.lit (.bool false)], args := [d] }
  | _ => none }
def StopSecretaryWrongFalsely : Prop := stopSecretaryRow.holds Try.pinned (OpenSpec.ofChange stopSecretaryWrong)

/-- 'turndownlaw02.StopRules': WHATEVER THE INPUT: true; the input reads as it did. -/
def stopRulesSpec : ChangeSpec := { name := "stopRules", fn := fun _ => fun
  | [d1, d2] => { results := [.lit (.bool true)], args := [d1, d2] }
  | _ => none }
def stopRulesRow : OpenClaim := { program := "ytgamcclfdkpcgaa", sum := "18e2e68a5c53948bb30ef8e0e5e3aa1c658934c057e2ed4ebf899ec459b67fe9", func := "turndown/turndownlaw02.StopRules", spec := "stopRules", unfollowed := true, recurses := true, apart := false }
def StopRulesSaid : Prop := stopRulesRow.holds Try.pinned (OpenSpec.ofChange stopRulesSpec)

/-- ITS FALSE NEIGHBOUR: 'it returns false'. Refute it at one input. -/
def stopRulesWrong : ChangeSpec := { name := "stopRules", fn := fun _ => fun
  | [d1, d2] => { results := [.lit (.bool false)], args := [d1, d2] }
  | _ => none }
def StopRulesWrongFalsely : Prop := stopRulesRow.holds Try.pinned (OpenSpec.ofChange stopRulesWrong)

/-- 'turndownlaw02.StopMajorant': WHATEVER THE INPUT: true; the input reads as it did. -/
def stopMajorantSpec : ChangeSpec := { name := "stopMajorant", fn := fun _ => fun
  | [d1, d2] => { results := [.lit (.bool true)], args := [d1, d2] }
  | _ => none }
def stopMajorantRow : OpenClaim := { program := "ytgamcclfdkpcgaa", sum := "18e2e68a5c53948bb30ef8e0e5e3aa1c658934c057e2ed4ebf899ec459b67fe9", func := "turndown/turndownlaw02.StopMajorant", spec := "stopMajorant", unfollowed := true, recurses := true, apart := false }
def StopMajorantSaid : Prop := stopMajorantRow.holds Try.pinned (OpenSpec.ofChange stopMajorantSpec)

/-- ITS FALSE NEIGHBOUR: 'it returns false'. Refute it at one input. -/
def stopMajorantWrong : ChangeSpec := { name := "stopMajorant", fn := fun _ => fun
  | [d1, d2] => { results := [.lit (.bool false)], args := [d1, d2] }
  | _ => none }
def StopMajorantWrongFalsely : Prop := stopMajorantRow.holds Try.pinned (OpenSpec.ofChange stopMajorantWrong)

/-- 'turndownlaw02.StopOwn': WHATEVER THE INPUT: true; the input reads as it did. -/
def stopOwnSpec : ChangeSpec := { name := "stopOwn", fn := fun _ => fun
  | [d] => { results := [.lit (.bool true)], args := [d] }
  | _ => none }
def stopOwnRow : OpenClaim := { program := "ytgamcclfdkpcgaa", sum := "18e2e68a5c53948bb30ef8e0e5e3aa1c658934c057e2ed4ebf899ec459b67fe9", func := "turndown/turndownlaw02.StopOwn", spec := "stopOwn", unfollowed := true, recurses := true, apart := false }
def StopOwnSaid : Prop := stopOwnRow.holds Try.pinned (OpenSpec.ofChange stopOwnSpec)

/-- ITS FALSE NEIGHBOUR: 'it returns false'. Refute it at one input. -/
def stopOwnWrong : ChangeSpec := { name := "stopOwn", fn := fun _ => fun
  | [d] => { results := [.lit (.bool false)], args := [d] }
  | _ => none }
def StopOwnWrongFalsely : Prop := stopOwnRow.holds Try.pinned (OpenSpec.ofChange stopOwnWrong)

/-- 'turndownlaw02.StopOffers': WHATEVER THE INPUT: true; the input reads as it did. -/
def stopOffersSpec : ChangeSpec := { name := "stopOffers", fn := fun _ => fun
  | [d1, d2] => { results := [.lit (.bool true)], args := [d1, d2] }
  | _ => none }
def stopOffersRow : OpenClaim := { program := "ytgamcclfdkpcgaa", sum := "18e2e68a5c53948bb30ef8e0e5e3aa1c658934c057e2ed4ebf899ec459b67fe9", func := "turndown/turndownlaw02.StopOffers", spec := "stopOffers", unfollowed := true, recurses := true, apart := false }
def StopOffersSaid : Prop := stopOffersRow.holds Try.pinned (OpenSpec.ofChange stopOffersSpec)

/-- ITS FALSE NEIGHBOUR: 'it returns false'. Refute it at one input. -/
def stopOffersWrong : ChangeSpec := { name := "stopOffers", fn := fun _ => fun
  | [d1, d2] => { results := [.lit (.bool false)], args := [d1, d2] }
  | _ => none }
def StopOffersWrongFalsely : Prop := stopOffersRow.holds Try.pinned (OpenSpec.ofChange stopOffersWrong)

/-- 'turndownlaw02.StopProphet': WHATEVER THE INPUT: true; the input reads as it did. -/
def stopProphetSpec : ChangeSpec := { name := "stopProphet", fn := fun _ => fun
  | [d1, d2] => { results := [.lit (.bool true)], args := [d1, d2] }
  | _ => none }
def stopProphetRow : OpenClaim := { program := "ytgamcclfdkpcgaa", sum := "18e2e68a5c53948bb30ef8e0e5e3aa1c658934c057e2ed4ebf899ec459b67fe9", func := "turndown/turndownlaw02.StopProphet", spec := "stopProphet", unfollowed := true, recurses := true, apart := false }
def StopProphetSaid : Prop := stopProphetRow.holds Try.pinned (OpenSpec.ofChange stopProphetSpec)

/-- ITS FALSE NEIGHBOUR: 'it returns false'. Refute it at one input. -/
def stopProphetWrong : ChangeSpec := { name := "stopProphet", fn := fun _ => fun
  | [d1, d2] => { results := [.lit (.bool false)], args := [d1, d2] }
  | _ => none }
def StopProphetWrongFalsely : Prop := stopProphetRow.holds Try.pinned (OpenSpec.ofChange stopProphetWrong)

/-- 'turndownlaw02.StopBest': WHATEVER THE INPUT: true; the input reads as it did. -/
def stopBestSpec : ChangeSpec := { name := "stopBest", fn := fun _ => fun
  | [d] => { results := [.lit (.bool true)], args := [d] }
  | _ => none }
def stopBestRow : OpenClaim := { program := "ytgamcclfdkpcgaa", sum := "18e2e68a5c53948bb30ef8e0e5e3aa1c658934c057e2ed4ebf899ec459b67fe9", func := "turndown/turndownlaw02.StopBest", spec := "stopBest", unfollowed := true, recurses := true, apart := false }
def StopBestSaid : Prop := stopBestRow.holds Try.pinned (OpenSpec.ofChange stopBestSpec)

/-- ITS FALSE NEIGHBOUR: 'it returns false'. Refute it at one input. -/
def stopBestWrong : ChangeSpec := { name := "stopBest", fn := fun _ => fun
  | [d] => { results := [.lit (.bool false)], args := [d] }
  | _ => none }
def StopBestWrongFalsely : Prop := stopBestRow.holds Try.pinned (OpenSpec.ofChange stopBestWrong)

/-- 'turndownlaw02.StopChecks': WHATEVER THE INPUT: true; the input reads as it did. -/
def stopChecksSpec : ChangeSpec := { name := "stopChecks", fn := fun _ => fun
  | [d1, d2] => { results := [.lit (.bool true)], args := [d1, d2] }
  | _ => none }
def stopChecksRow : OpenClaim := { program := "ytgamcclfdkpcgaa", sum := "18e2e68a5c53948bb30ef8e0e5e3aa1c658934c057e2ed4ebf899ec459b67fe9", func := "turndown/turndownlaw02.StopChecks", spec := "stopChecks", unfollowed := true, recurses := true, apart := false }
def StopChecksSaid : Prop := stopChecksRow.holds Try.pinned (OpenSpec.ofChange stopChecksSpec)

/-- ITS FALSE NEIGHBOUR: 'it returns false'. Refute it at one input. -/
def stopChecksWrong : ChangeSpec := { name := "stopChecks", fn := fun _ => fun
  | [d1, d2] => { results := [.lit (.bool false)], args := [d1, d2] }
  | _ => none }
def StopChecksWrongFalsely : Prop := stopChecksRow.holds Try.pinned (OpenSpec.ofChange stopChecksWrong)

/- THE SECOND FORM. 'bulk': how many values and letters a reading holds, each counted each time it is reached (what is shared counts as often as it is met; a slice's spare places count too). A statement '..UptoSaid' is the law's where the arguments, and the package variables that the reading takes, are together of bulk at most 1048576: NARROWER than '..Said'. Prove '..Said' where nothing that the law and all that it calls make is longer than what came in: it says more and counts as full. Else prove '..UptoSaid'. A law counts once. -/
mutual
def uptoBulk {H : Type} : DataW H → Nat
  | .lit (.string bytes) => bytes.length + 1
  | .lit _ => 1
  | .nil => 1
  | .ptr d => uptoBulk d + 1
  | .slice elems spare => uptoBulkAll elems + uptoBulkAll spare + 1
  | .agg parts => uptoBulkAll parts + 1
  | .iface _ d => uptoBulk d + 1
  | .map entries => uptoBulkEntries entries + 1
  | .held _ => 1
def uptoBulkAll {H : Type} : List (DataW H) → Nat
  | [] => 0
  | d :: r => uptoBulk d + uptoBulkAll r
def uptoBulkEntries {H : Type} : List (Lit × DataW H) → Nat
  | [] => 0
  | x :: r => uptoBulkEntry x + uptoBulkEntries r
def uptoBulkEntry {H : Type} : Lit × DataW H → Nat
  | (.string bytes, d) => bytes.length + uptoBulk d + 1
  | (_, d) => uptoBulk d + 1
 end
def uptoSmall : (H : Type) → List (DataW H) → Bool := fun _ ds => decide (uptoBulkAll ds ≤ 1048576)
def OpenSpec.upto (s : _root_.Go.ChangeSpec) : _root_.Go.OpenSpec := { _root_.Go.OpenSpec.ofChange s with cond := some uptoSmall }

/-- 'turndownlaw02.StopMore', WHERE WHAT IT READS IS OF BULK AT MOST 1048576: true; the input reads as it did. -/
def stopMoreUptoRow : OpenClaim := { program := "ytgamcclfdkpcgaa", sum := "18e2e68a5c53948bb30ef8e0e5e3aa1c658934c057e2ed4ebf899ec459b67fe9", func := "turndown/turndownlaw02.StopMore", spec := "stopMore", unfollowed := true, recurses := true, apart := false, narrowed := true }
def StopMoreUptoSaid : Prop := stopMoreUptoRow.holds Try.pinned (OpenSpec.upto stopMoreSpec)

/-- 'turndownlaw02.StopScaled', WHERE WHAT IT READS IS OF BULK AT MOST 1048576: true; the input reads as it did. -/
def stopScaledUptoRow : OpenClaim := { program := "ytgamcclfdkpcgaa", sum := "18e2e68a5c53948bb30ef8e0e5e3aa1c658934c057e2ed4ebf899ec459b67fe9", func := "turndown/turndownlaw02.StopScaled", spec := "stopScaled", unfollowed := true, recurses := true, apart := false, narrowed := true }
def StopScaledUptoSaid : Prop := stopScaledUptoRow.holds Try.pinned (OpenSpec.upto stopScaledSpec)

/-- 'turndownlaw02.StopCandidates', WHERE WHAT IT READS IS OF BULK AT MOST 1048576: true; the input reads as it did. -/
def stopCandidatesUptoRow : OpenClaim := { program := "ytgamcclfdkpcgaa", sum := "18e2e68a5c53948bb30ef8e0e5e3aa1c658934c057e2ed4ebf899ec459b67fe9", func := "turndown/turndownlaw02.StopCandidates", spec := "stopCandidates", unfollowed := true, recurses := true, apart := false, narrowed := true }
def StopCandidatesUptoSaid : Prop := stopCandidatesUptoRow.holds Try.pinned (OpenSpec.upto stopCandidatesSpec)

/-- 'turndownlaw02.StopOrders', WHERE WHAT IT READS IS OF BULK AT MOST 1048576: true; the input reads as it did. -/
def stopOrdersUptoRow : OpenClaim := { program := "ytgamcclfdkpcgaa", sum := "18e2e68a5c53948bb30ef8e0e5e3aa1c658934c057e2ed4ebf899ec459b67fe9", func := "turndown/turndownlaw02.StopOrders", spec := "stopOrders", unfollowed := true, recurses := true, apart := false, narrowed := true }
def StopOrdersUptoSaid : Prop := stopOrdersUptoRow.holds Try.pinned (OpenSpec.upto stopOrdersSpec)

/-- 'turndownlaw02.StopSecretary', WHERE WHAT IT READS IS OF BULK AT MOST 1048576: true; the input reads as it did. -/
def stopSecretaryUptoRow : OpenClaim := { program := "ytgamcclfdkpcgaa", sum := "18e2e68a5c53948bb30ef8e0e5e3aa1c658934c057e2ed4ebf899ec459b67fe9", func := "turndown/turndownlaw02.StopSecretary", spec := "stopSecretary", unfollowed := true, recurses := true, apart := false, narrowed := true }
def StopSecretaryUptoSaid : Prop := stopSecretaryUptoRow.holds Try.pinned (OpenSpec.upto stopSecretarySpec)

/-- 'turndownlaw02.StopRules', WHERE WHAT IT READS IS OF BULK AT MOST 1048576: true; the input reads as it did. -/
def stopRulesUptoRow : OpenClaim := { program := "ytgamcclfdkpcgaa", sum := "18e2e68a5c53948bb30ef8e0e5e3aa1c658934c057e2ed4ebf899ec459b67fe9", func := "turndown/turndownlaw02.StopRules", spec := "stopRules", unfollowed := true, recurses := true, apart := false, narrowed := true }
def StopRulesUptoSaid : Prop := stopRulesUptoRow.holds Try.pinned (OpenSpec.upto stopRulesSpec)

/-- 'turndownlaw02.StopMajorant', WHERE WHAT IT READS IS OF BULK AT MOST 1048576: true; the input reads as it did. -/
def stopMajorantUptoRow : OpenClaim := { program := "ytgamcclfdkpcgaa", sum := "18e2e68a5c53948bb30ef8e0e5e3aa1c658934c057e2ed4ebf899ec459b67fe9", func := "turndown/turndownlaw02.StopMajorant", spec := "stopMajorant", unfollowed := true, recurses := true, apart := false, narrowed := true }
def StopMajorantUptoSaid : Prop := stopMajorantUptoRow.holds Try.pinned (OpenSpec.upto stopMajorantSpec)

/-- 'turndownlaw02.StopOwn', WHERE WHAT IT READS IS OF BULK AT MOST 1048576: true; the input reads as it did. -/
def stopOwnUptoRow : OpenClaim := { program := "ytgamcclfdkpcgaa", sum := "18e2e68a5c53948bb30ef8e0e5e3aa1c658934c057e2ed4ebf899ec459b67fe9", func := "turndown/turndownlaw02.StopOwn", spec := "stopOwn", unfollowed := true, recurses := true, apart := false, narrowed := true }
def StopOwnUptoSaid : Prop := stopOwnUptoRow.holds Try.pinned (OpenSpec.upto stopOwnSpec)

/-- 'turndownlaw02.StopOffers', WHERE WHAT IT READS IS OF BULK AT MOST 1048576: true; the input reads as it did. -/
def stopOffersUptoRow : OpenClaim := { program := "ytgamcclfdkpcgaa", sum := "18e2e68a5c53948bb30ef8e0e5e3aa1c658934c057e2ed4ebf899ec459b67fe9", func := "turndown/turndownlaw02.StopOffers", spec := "stopOffers", unfollowed := true, recurses := true, apart := false, narrowed := true }
def StopOffersUptoSaid : Prop := stopOffersUptoRow.holds Try.pinned (OpenSpec.upto stopOffersSpec)

/-- 'turndownlaw02.StopProphet', WHERE WHAT IT READS IS OF BULK AT MOST 1048576: true; the input reads as it did. -/
def stopProphetUptoRow : OpenClaim := { program := "ytgamcclfdkpcgaa", sum := "18e2e68a5c53948bb30ef8e0e5e3aa1c658934c057e2ed4ebf899ec459b67fe9", func := "turndown/turndownlaw02.StopProphet", spec := "stopProphet", unfollowed := true, recurses := true, apart := false, narrowed := true }
def StopProphetUptoSaid : Prop := stopProphetUptoRow.holds Try.pinned (OpenSpec.upto stopProphetSpec)

/-- 'turndownlaw02.StopBest', WHERE WHAT IT READS IS OF BULK AT MOST 1048576: true; the input reads as it did. -/
def stopBestUptoRow : OpenClaim := { program := "ytgamcclfdkpcgaa", sum := "18e2e68a5c53948bb30ef8e0e5e3aa1c658934c057e2ed4ebf899ec459b67fe9", func := "turndown/turndownlaw02.StopBest", spec := "stopBest", unfollowed := true, recurses := true, apart := false, narrowed := true }
def StopBestUptoSaid : Prop := stopBestUptoRow.holds Try.pinned (OpenSpec.upto stopBestSpec)

/-- 'turndownlaw02.StopChecks', WHERE WHAT IT READS IS OF BULK AT MOST 1048576: true; the input reads as it did. -/
def stopChecksUptoRow : OpenClaim := { program := "ytgamcclfdkpcgaa", sum := "18e2e68a5c53948bb30ef8e0e5e3aa1c658934c057e2ed4ebf899ec459b67fe9", func := "turndown/turndownlaw02.StopChecks", spec := "stopChecks", unfollowed := true, recurses := true, apart := false, narrowed := true }
def StopChecksUptoSaid : Prop := stopChecksUptoRow.holds Try.pinned (OpenSpec.upto stopChecksSpec)

end Rows
end Go.Proofs.Ytgamcclfdkpcgaa
