/-
  No cell of these rows narrows 'for every input' (looked for: loops, veiled, ifaces, maps, wideKeys, modest, calm, conditions, laid).
  DERIVED. THE GIVEN ROWS OF THIS SEAT. 13 by the template 'for every input the law returns true; each argument reads behind the call as it read before'; 0 by the template 'total and deterministic' (their statements: YtpkakapbepkfdaaTotals.lean).
  GIVEN WITH THE SEED: the statements are not yours to turn. If you find one false, say at which input.
  Laid BY PROGRAM, IN A SANDBOX (cutbox-rows.mjs): the forced cells as the released guide's own fill.sh prints them over the translation f4cda7410db1743c… (all of the seat's roots in one cut). By AI agents, Wed Nov 11 2026. No macro, syntax, notation, axiom, sorry.
-/
import Derived.Test.YtpkakapbepkfdaaChecked
import GoSem.Claim
import GoSem.ClaimJoined
import GoSem.ClaimMapViews
import Derived.JoinedTies
import Derived.KernelRfl
namespace Go.Proofs.Ytpkakapbepkfdaa
/- THE CELL 'sum', in the pinned program and in every row, IS THE sha256 OF THE DUMP (.gsa) THAT YtpkakapbepkfdaaProg.lean LOADS. Nothing in Lean hashes anything: it is a label: what it is worth is what the hold of that sum in a sandbox is worth. -/
noncomputable def Try.pinned : Pinned := { name := "ytpkakapbepkfdaa", sum := "f4cda7410db1743c19be256fcdb36fd8e06df9ff8060e056abcd00b2bf58a02d", checked := Try.checked }
namespace Rows
def none {H : Type} : Left H := { results := [], args := [] }

/-- 'turndownlaw01.BayesJoints': WHATEVER THE INPUT: true; the input reads as it did. -/
def bayesJointsSpec : ChangeSpec := { name := "bayesJoints", fn := fun _ => fun
  | [d1, d2] => { results := [.lit (.bool true)], args := [d1, d2] }
  | _ => none }
def bayesJointsRow : OpenClaim := { program := "ytpkakapbepkfdaa", sum := "f4cda7410db1743c19be256fcdb36fd8e06df9ff8060e056abcd00b2bf58a02d", func := "turndown/turndownlaw01.BayesJoints", spec := "bayesJoints", unfollowed := true, recurses := true, apart := false }
def BayesJointsSaid : Prop := bayesJointsRow.holds Try.pinned (OpenSpec.ofChange bayesJointsSpec)

/-- ITS FALSE NEIGHBOUR: 'it returns false'. Refute it at one input. -/
def bayesJointsWrong : ChangeSpec := { name := "bayesJoints", fn := fun _ => fun
  | [d1, d2] => { results := [.lit (.bool false)], args := [d1, d2] }
  | _ => none }
def BayesJointsWrongFalsely : Prop := bayesJointsRow.holds Try.pinned (OpenSpec.ofChange bayesJointsWrong)

/-- 'turndownlaw01.BayesChances': WHATEVER THE INPUT: true; the input reads as it did. -/
def bayesChancesSpec : ChangeSpec := { name := "bayesChances", fn := fun _ => fun
  | [d1, d2] => { results := [.lit (.bool true)], args := [d1, d2] }
  | _ => none }
def bayesChancesRow : OpenClaim := { program := "ytpkakapbepkfdaa", sum := "f4cda7410db1743c19be256fcdb36fd8e06df9ff8060e056abcd00b2bf58a02d", func := "turndown/turndownlaw01.BayesChances", spec := "bayesChances", unfollowed := true, recurses := true, apart := false }
def BayesChancesSaid : Prop := bayesChancesRow.holds Try.pinned (OpenSpec.ofChange bayesChancesSpec)

/-- ITS FALSE NEIGHBOUR: 'it returns false'. Refute it at one input. -/
def bayesChancesWrong : ChangeSpec := { name := "bayesChances", fn := fun _ => fun
  | [d1, d2] => { results := [.lit (.bool false)], args := [d1, d2] }
  | _ => none }
def BayesChancesWrongFalsely : Prop := bayesChancesRow.holds Try.pinned (OpenSpec.ofChange bayesChancesWrong)

/-- 'turndownlaw01.BayesSeparates': WHATEVER THE INPUT: true; the input reads as it did. -/
def bayesSeparatesSpec : ChangeSpec := { name := "bayesSeparates", fn := fun _ => fun
  | [d1, d2, d3] => { results := [.lit (.bool true)], args := [d1, d2, d3] }
  | _ => none }
def bayesSeparatesRow : OpenClaim := { program := "ytpkakapbepkfdaa", sum := "f4cda7410db1743c19be256fcdb36fd8e06df9ff8060e056abcd00b2bf58a02d", func := "turndown/turndownlaw01.BayesSeparates", spec := "bayesSeparates", unfollowed := true, recurses := true, apart := false }
def BayesSeparatesSaid : Prop := bayesSeparatesRow.holds Try.pinned (OpenSpec.ofChange bayesSeparatesSpec)

/-- ITS FALSE NEIGHBOUR: 'it returns false'. Refute it at one input. -/
def bayesSeparatesWrong : ChangeSpec := { name := "bayesSeparates", fn := fun _ => fun
  | [d1, d2, d3] => { results := [.lit (.bool false)], args := [d1, d2, d3] }
  | _ => none }
def BayesSeparatesWrongFalsely : Prop := bayesSeparatesRow.holds Try.pinned (OpenSpec.ofChange bayesSeparatesWrong)

/-- 'turndownlaw01.BayesSums': WHATEVER THE INPUT: true; the input reads as it did. -/
def bayesSumsSpec : ChangeSpec := { name := "bayesSums", fn := fun _ => fun
  | [d1, d2, d3] => { results := [.lit (.bool true)], args := [d1, d2, d3] }
  | _ => none }
def bayesSumsRow : OpenClaim := { program := "ytpkakapbepkfdaa", sum := "f4cda7410db1743c19be256fcdb36fd8e06df9ff8060e056abcd00b2bf58a02d", func := "turndown/turndownlaw01.BayesSums", spec := "bayesSums", unfollowed := true, recurses := true, apart := false }
def BayesSumsSaid : Prop := bayesSumsRow.holds Try.pinned (OpenSpec.ofChange bayesSumsSpec)

/-- ITS FALSE NEIGHBOUR: 'it returns false'. Refute it at one input. -/
def bayesSumsWrong : ChangeSpec := { name := "bayesSums", fn := fun _ => fun
  | [d1, d2, d3] => { results := [.lit (.bool false)], args := [d1, d2, d3] }
  | _ => none }
def BayesSumsWrongFalsely : Prop := bayesSumsRow.holds Try.pinned (OpenSpec.ofChange bayesSumsWrong)

/-- 'turndownlaw01.BayesChain': WHATEVER THE INPUT: true; the input reads as it did. -/
def bayesChainSpec : ChangeSpec := { name := "bayesChain", fn := fun _ => fun
  | [d1, d2, d3] => { results := [.lit (.bool true)], args := [d1, d2, d3] }
  | _ => none }
def bayesChainRow : OpenClaim := { program := "ytpkakapbepkfdaa", sum := "f4cda7410db1743c19be256fcdb36fd8e06df9ff8060e056abcd00b2bf58a02d", func := "turndown/turndownlaw01.BayesChain", spec := "bayesChain", unfollowed := true, recurses := true, apart := false }
def BayesChainSaid : Prop := bayesChainRow.holds Try.pinned (OpenSpec.ofChange bayesChainSpec)

/-- ITS FALSE NEIGHBOUR: 'it returns false'. Refute it at one input. -/
def bayesChainWrong : ChangeSpec := { name := "bayesChain", fn := fun _ => fun
  | [d1, d2, d3] => { results := [.lit (.bool false)], args := [d1, d2, d3] }
  | _ => none }
def BayesChainWrongFalsely : Prop := bayesChainRow.holds Try.pinned (OpenSpec.ofChange bayesChainWrong)

/-- 'turndownlaw01.BayesIndependent': WHATEVER THE INPUT: true; the input reads as it did. -/
def bayesIndependentSpec : ChangeSpec := { name := "bayesIndependent", fn := fun _ => fun
  | [d1, d2, d3] => { results := [.lit (.bool true)], args := [d1, d2, d3] }
  | _ => none }
def bayesIndependentRow : OpenClaim := { program := "ytpkakapbepkfdaa", sum := "f4cda7410db1743c19be256fcdb36fd8e06df9ff8060e056abcd00b2bf58a02d", func := "turndown/turndownlaw01.BayesIndependent", spec := "bayesIndependent", unfollowed := true, recurses := true, apart := false }
def BayesIndependentSaid : Prop := bayesIndependentRow.holds Try.pinned (OpenSpec.ofChange bayesIndependentSpec)

/-- ITS FALSE NEIGHBOUR: 'it returns false'. Refute it at one input. -/
def bayesIndependentWrong : ChangeSpec := { name := "bayesIndependent", fn := fun _ => fun
  | [d1, d2, d3] => { results := [.lit (.bool false)], args := [d1, d2, d3] }
  | _ => none }
def BayesIndependentWrongFalsely : Prop := bayesIndependentRow.holds Try.pinned (OpenSpec.ofChange bayesIndependentWrong)

/-- 'turndownlaw01.BayesLikely': WHATEVER THE INPUT: true; the input reads as it did. -/
def bayesLikelySpec : ChangeSpec := { name := "bayesLikely", fn := fun _ => fun
  | [d1, d2] => { results := [.lit (.bool true)], args := [d1, d2] }
  | _ => none }
def bayesLikelyRow : OpenClaim := { program := "ytpkakapbepkfdaa", sum := "f4cda7410db1743c19be256fcdb36fd8e06df9ff8060e056abcd00b2bf58a02d", func := "turndown/turndownlaw01.BayesLikely", spec := "bayesLikely", unfollowed := true, recurses := true, apart := false }
def BayesLikelySaid : Prop := bayesLikelyRow.holds Try.pinned (OpenSpec.ofChange bayesLikelySpec)

/-- ITS FALSE NEIGHBOUR: 'it returns false'. Refute it at one input. -/
def bayesLikelyWrong : ChangeSpec := { name := "bayesLikely", fn := fun _ => fun
  | [d1, d2] => { results := [.lit (.bool false)], args := [d1, d2] }
  | _ => none }
def BayesLikelyWrongFalsely : Prop := bayesLikelyRow.holds Try.pinned (OpenSpec.ofChange bayesLikelyWrong)

/-- 'turndownlaw01.BayesMost': WHATEVER THE INPUT: true; the input reads as it did. -/
def bayesMostSpec : ChangeSpec := { name := "bayesMost", fn := fun _ => fun
  | [d1, d2] => { results := [.lit (.bool true)], args := [d1, d2] }
  | _ => none }
def bayesMostRow : OpenClaim := { program := "ytpkakapbepkfdaa", sum := "f4cda7410db1743c19be256fcdb36fd8e06df9ff8060e056abcd00b2bf58a02d", func := "turndown/turndownlaw01.BayesMost", spec := "bayesMost", unfollowed := true, recurses := true, apart := false }
def BayesMostSaid : Prop := bayesMostRow.holds Try.pinned (OpenSpec.ofChange bayesMostSpec)

/-- ITS FALSE NEIGHBOUR: 'it returns false'. Refute it at one input. -/
def bayesMostWrong : ChangeSpec := { name := "bayesMost", fn := fun _ => fun
  | [d1, d2] => { results := [.lit (.bool false)], args := [d1, d2] }
  | _ => none }
def BayesMostWrongFalsely : Prop := bayesMostRow.holds Try.pinned (OpenSpec.ofChange bayesMostWrong)

/-- 'turndownlaw01.BayesActive': WHATEVER THE INPUT: true; the input reads as it did. -/
def bayesActiveSpec : ChangeSpec := { name := "bayesActive", fn := fun _ => fun
  | [d1, d2, d3] => { results := [.lit (.bool true)], args := [d1, d2, d3] }
  | _ => none }
def bayesActiveRow : OpenClaim := { program := "ytpkakapbepkfdaa", sum := "f4cda7410db1743c19be256fcdb36fd8e06df9ff8060e056abcd00b2bf58a02d", func := "turndown/turndownlaw01.BayesActive", spec := "bayesActive", unfollowed := true, recurses := true, apart := false }
def BayesActiveSaid : Prop := bayesActiveRow.holds Try.pinned (OpenSpec.ofChange bayesActiveSpec)

/-- ITS FALSE NEIGHBOUR: 'it returns false'. Refute it at one input. -/
def bayesActiveWrong : ChangeSpec := { name := "bayesActive", fn := fun _ => fun
  | [d1, d2, d3] => { results := [.lit (.bool false)], args := [d1, d2, d3] }
  | _ => none }
def BayesActiveWrongFalsely : Prop := bayesActiveRow.holds Try.pinned (OpenSpec.ofChange bayesActiveWrong)

/-- 'turndownlaw01.BayesReversed': WHATEVER THE INPUT: true; the input reads as it did. -/
def bayesReversedSpec : ChangeSpec := { name := "bayesReversed", fn := fun _ => fun
  | [d1, d2, d3] => { results := [.lit (.bool true)], args := [d1, d2, d3] }
  | _ => none }
def bayesReversedRow : OpenClaim := { program := "ytpkakapbepkfdaa", sum := "f4cda7410db1743c19be256fcdb36fd8e06df9ff8060e056abcd00b2bf58a02d", func := "turndown/turndownlaw01.BayesReversed", spec := "bayesReversed", unfollowed := true, recurses := true, apart := false }
def BayesReversedSaid : Prop := bayesReversedRow.holds Try.pinned (OpenSpec.ofChange bayesReversedSpec)

/-- ITS FALSE NEIGHBOUR: 'it returns false'. Refute it at one input. -/
def bayesReversedWrong : ChangeSpec := { name := "bayesReversed", fn := fun _ => fun
  | [d1, d2, d3] => { results := [.lit (.bool false)], args := [d1, d2, d3] }
  | _ => none }
def BayesReversedWrongFalsely : Prop := bayesReversedRow.holds Try.pinned (OpenSpec.ofChange bayesReversedWrong)

/-- 'turndownlaw01.BayesForces': WHATEVER THE INPUT: true; the input reads as it did. -/
def bayesForcesSpec : ChangeSpec := { name := "bayesForces", fn := fun _ => fun
  | [d1, d2, d3] => { results := [.lit (.bool true)], args := [d1, d2, d3] }
  | _ => none }
def bayesForcesRow : OpenClaim := { program := "ytpkakapbepkfdaa", sum := "f4cda7410db1743c19be256fcdb36fd8e06df9ff8060e056abcd00b2bf58a02d", func := "turndown/turndownlaw01.BayesForces", spec := "bayesForces", unfollowed := true, recurses := true, apart := false }
def BayesForcesSaid : Prop := bayesForcesRow.holds Try.pinned (OpenSpec.ofChange bayesForcesSpec)

/-- ITS FALSE NEIGHBOUR: 'it returns false'. Refute it at one input. -/
def bayesForcesWrong : ChangeSpec := { name := "bayesForces", fn := fun _ => fun
  | [d1, d2, d3] => { results := [.lit (.bool false)], args := [d1, d2, d3] }
  | _ => none }
def BayesForcesWrongFalsely : Prop := bayesForcesRow.holds Try.pinned (OpenSpec.ofChange bayesForcesWrong)

/-- 'turndownlaw01.BayesCauses': WHATEVER THE INPUT: true; the input reads as it did. -/
def bayesCausesSpec : ChangeSpec := { name := "bayesCauses", fn := fun _ => fun
  | [d1, d2, d3] => { results := [.lit (.bool true)], args := [d1, d2, d3] }
  | _ => none }
def bayesCausesRow : OpenClaim := { program := "ytpkakapbepkfdaa", sum := "f4cda7410db1743c19be256fcdb36fd8e06df9ff8060e056abcd00b2bf58a02d", func := "turndown/turndownlaw01.BayesCauses", spec := "bayesCauses", unfollowed := true, recurses := true, apart := false }
def BayesCausesSaid : Prop := bayesCausesRow.holds Try.pinned (OpenSpec.ofChange bayesCausesSpec)

/-- ITS FALSE NEIGHBOUR: 'it returns false'. Refute it at one input. -/
def bayesCausesWrong : ChangeSpec := { name := "bayesCauses", fn := fun _ => fun
  | [d1, d2, d3] => { results := [.lit (.bool false)], args := [d1, d2, d3] }
  | _ => none }
def BayesCausesWrongFalsely : Prop := bayesCausesRow.holds Try.pinned (OpenSpec.ofChange bayesCausesWrong)

/-- 'turndownlaw01.BayesOwn': WHATEVER THE INPUT: true; the input reads as it did. -/
def bayesOwnSpec : ChangeSpec := { name := "bayesOwn", fn := fun _ => fun
  | [d1, d2] => { results := [.lit (.bool true)], args := [d1, d2] }
  | _ => none }
def bayesOwnRow : OpenClaim := { program := "ytpkakapbepkfdaa", sum := "f4cda7410db1743c19be256fcdb36fd8e06df9ff8060e056abcd00b2bf58a02d", func := "turndown/turndownlaw01.BayesOwn", spec := "bayesOwn", unfollowed := true, recurses := true, apart := false }
def BayesOwnSaid : Prop := bayesOwnRow.holds Try.pinned (OpenSpec.ofChange bayesOwnSpec)

/-- ITS FALSE NEIGHBOUR: 'it returns false'. Refute it at one input. -/
def bayesOwnWrong : ChangeSpec := { name := "bayesOwn", fn := fun _ => fun
  | [d1, d2] => { results := [.lit (.bool false)], args := [d1, d2] }
  | _ => none }
def BayesOwnWrongFalsely : Prop := bayesOwnRow.holds Try.pinned (OpenSpec.ofChange bayesOwnWrong)

/- THE SECOND FORM. 'bulk': how many values and letters a reading holds, each counted each time it is reached (what is shared counts as often as it is met; a slice's spare places count too). A statement '..UptoSaid' is the law's where the arguments, and the package variables that the reading takes, are together of bulk at most 1048576: NARROWER than '..Said'. Prove '..Said' where nothing that the law and all that it calls make is longer than what came in: it says more and counts as full. Else prove '..UptoSaid'. A law counts once. -/
mutual
def uptoBulk {H : Type} : DataW H → Nat
  | .lit (.string bytes) => bytes.length + 1
  | .lit _ => 1
  | .nil => 1
  | .ptr d => uptoBulk d + 1
  | .slice elems spare => uptoBulkAll elems + uptoBulkAll spare + 1
  | .agg parts => uptoBulkAll parts + 1
  | .iface _ d => uptoBulk d + 1
  | .map entries => uptoBulkEntries entries + 1
  | .held _ => 1
def uptoBulkAll {H : Type} : List (DataW H) → Nat
  | [] => 0
  | d :: r => uptoBulk d + uptoBulkAll r
def uptoBulkEntries {H : Type} : List (Lit × DataW H) → Nat
  | [] => 0
  | x :: r => uptoBulkEntry x + uptoBulkEntries r
def uptoBulkEntry {H : Type} : Lit × DataW H → Nat
  | (.string bytes, d) => bytes.length + uptoBulk d + 1
  | (_, d) => uptoBulk d + 1
 end
def uptoSmall : (H : Type) → List (DataW H) → Bool := fun _ ds => decide (uptoBulkAll ds ≤ 1048576)
def OpenSpec.upto (s : _root_.Go.ChangeSpec) : _root_.Go.OpenSpec := { _root_.Go.OpenSpec.ofChange s with cond := some uptoSmall }

/-- 'turndownlaw01.BayesJoints', WHERE WHAT IT READS IS OF BULK AT MOST 1048576: true; the input reads as it did. -/
def bayesJointsUptoRow : OpenClaim := { program := "ytpkakapbepkfdaa", sum := "f4cda7410db1743c19be256fcdb36fd8e06df9ff8060e056abcd00b2bf58a02d", func := "turndown/turndownlaw01.BayesJoints", spec := "bayesJoints", unfollowed := true, recurses := true, apart := false, narrowed := true }
def BayesJointsUptoSaid : Prop := bayesJointsUptoRow.holds Try.pinned (OpenSpec.upto bayesJointsSpec)

/-- 'turndownlaw01.BayesChances', WHERE WHAT IT READS IS OF BULK AT MOST 1048576: true; the input reads as it did. -/
def bayesChancesUptoRow : OpenClaim := { program := "ytpkakapbepkfdaa", sum := "f4cda7410db1743c19be256fcdb36fd8e06df9ff8060e056abcd00b2bf58a02d", func := "turndown/turndownlaw01.BayesChances", spec := "bayesChances", unfollowed := true, recurses := true, apart := false, narrowed := true }
def BayesChancesUptoSaid : Prop := bayesChancesUptoRow.holds Try.pinned (OpenSpec.upto bayesChancesSpec)

/-- 'turndownlaw01.BayesSeparates', WHERE WHAT IT READS IS OF BULK AT MOST 1048576: true; the input reads as it did. -/
def bayesSeparatesUptoRow : OpenClaim := { program := "ytpkakapbepkfdaa", sum := "f4cda7410db1743c19be256fcdb36fd8e06df9ff8060e056abcd00b2bf58a02d", func := "turndown/turndownlaw01.BayesSeparates", spec := "bayesSeparates", unfollowed := true, recurses := true, apart := false, narrowed := true }
def BayesSeparatesUptoSaid : Prop := bayesSeparatesUptoRow.holds Try.pinned (OpenSpec.upto bayesSeparatesSpec)

/-- 'turndownlaw01.BayesSums', WHERE WHAT IT READS IS OF BULK AT MOST 1048576: true; the input reads as it did. -/
def bayesSumsUptoRow : OpenClaim := { program := "ytpkakapbepkfdaa", sum := "f4cda7410db1743c19be256fcdb36fd8e06df9ff8060e056abcd00b2bf58a02d", func := "turndown/turndownlaw01.BayesSums", spec := "bayesSums", unfollowed := true, recurses := true, apart := false, narrowed := true }
def BayesSumsUptoSaid : Prop := bayesSumsUptoRow.holds Try.pinned (OpenSpec.upto bayesSumsSpec)

/-- 'turndownlaw01.BayesChain', WHERE WHAT IT READS IS OF BULK AT MOST 1048576: true; the input reads as it did. -/
def bayesChainUptoRow : OpenClaim := { program := "ytpkakapbepkfdaa", sum := "f4cda7410db1743c19be256fcdb36fd8e06df9ff8060e056abcd00b2bf58a02d", func := "turndown/turndownlaw01.BayesChain", spec := "bayesChain", unfollowed := true, recurses := true, apart := false, narrowed := true }
def BayesChainUptoSaid : Prop := bayesChainUptoRow.holds Try.pinned (OpenSpec.upto bayesChainSpec)

/-- 'turndownlaw01.BayesIndependent', WHERE WHAT IT READS IS OF BULK AT MOST 1048576: true; the input reads as it did. -/
def bayesIndependentUptoRow : OpenClaim := { program := "ytpkakapbepkfdaa", sum := "f4cda7410db1743c19be256fcdb36fd8e06df9ff8060e056abcd00b2bf58a02d", func := "turndown/turndownlaw01.BayesIndependent", spec := "bayesIndependent", unfollowed := true, recurses := true, apart := false, narrowed := true }
def BayesIndependentUptoSaid : Prop := bayesIndependentUptoRow.holds Try.pinned (OpenSpec.upto bayesIndependentSpec)

/-- 'turndownlaw01.BayesLikely', WHERE WHAT IT READS IS OF BULK AT MOST 1048576: true; the input reads as it did. -/
def bayesLikelyUptoRow : OpenClaim := { program := "ytpkakapbepkfdaa", sum := "f4cda7410db1743c19be256fcdb36fd8e06df9ff8060e056abcd00b2bf58a02d", func := "turndown/turndownlaw01.BayesLikely", spec := "bayesLikely", unfollowed := true, recurses := true, apart := false, narrowed := true }
def BayesLikelyUptoSaid : Prop := bayesLikelyUptoRow.holds Try.pinned (OpenSpec.upto bayesLikelySpec)

/-- 'turndownlaw01.BayesMost', WHERE WHAT IT READS IS OF BULK AT MOST 1048576: true; the input reads as it did. -/
def bayesMostUptoRow : OpenClaim := { program := "ytpkakapbepkfdaa", sum := "f4cda7410db1743c19be256fcdb36fd8e06df9ff8060e056abcd00b2bf58a02d", func := "turndown/turndownlaw01.BayesMost", spec := "bayesMost", unfollowed := true, recurses := true, apart := false, narrowed := true }
def BayesMostUptoSaid : Prop := bayesMostUptoRow.holds Try.pinned (OpenSpec.upto bayesMostSpec)

/-- 'turndownlaw01.BayesActive', WHERE WHAT IT READS IS OF BULK AT MOST 1048576: true; the input reads as it did. -/
def bayesActiveUptoRow : OpenClaim := { program := "ytpkakapbepkfdaa", sum := "f4cda7410db1743c19be256fcdb36fd8e06df9ff8060e056abcd00b2bf58a02d", func := "turndown/turndownlaw01.BayesActive", spec := "bayesActive", unfollowed := true, recurses := true, apart := false, narrowed := true }
def BayesActiveUptoSaid : Prop := bayesActiveUptoRow.holds Try.pinned (OpenSpec.upto bayesActiveSpec)

/-- 'turndownlaw01.BayesReversed', WHERE WHAT IT READS IS OF BULK AT MOST 1048576: true; the input reads as it did. -/
def bayesReversedUptoRow : OpenClaim := { program := "ytpkakapbepkfdaa", sum := "f4cda7410db1743c19be256fcdb36fd8e06df9ff8060e056abcd00b2bf58a02d", func := "turndown/turndownlaw01.BayesReversed", spec := "bayesReversed", unfollowed := true, recurses := true, apart := false, narrowed := true }
def BayesReversedUptoSaid : Prop := bayesReversedUptoRow.holds Try.pinned (OpenSpec.upto bayesReversedSpec)

/-- 'turndownlaw01.BayesForces', WHERE WHAT IT READS IS OF BULK AT MOST 1048576: true; the input reads as it did. -/
def bayesForcesUptoRow : OpenClaim := { program := "ytpkakapbepkfdaa", sum := "f4cda7410db1743c19be256fcdb36fd8e06df9ff8060e056abcd00b2bf58a02d", func := "turndown/turndownlaw01.BayesForces", spec := "bayesForces", unfollowed := true, recurses := true, apart := false, narrowed := true }
def BayesForcesUptoSaid : Prop := bayesForcesUptoRow.holds Try.pinned (OpenSpec.upto bayesForcesSpec)

/-- 'turndownlaw01.BayesCauses', WHERE WHAT IT READS IS OF BULK AT MOST 1048576: true; the input reads as it did. -/
def bayesCausesUptoRow : OpenClaim := { program := "ytpkakapbepkfdaa", sum := "f4cda7410db1743c19be256fcdb36fd8e06df9ff8060e056abcd00b2bf58a02d", func := "turndown/turndownlaw01.BayesCauses", spec := "bayesCauses", unfollowed := true, recurses := true, apart := false, narrowed := true }
def BayesCausesUptoSaid : Prop := bayesCausesUptoRow.holds Try.pinned (OpenSpec.upto bayesCausesSpec)

/-- 'turndownlaw01.BayesOwn', WHERE WHAT IT READS IS OF BULK AT MOST 1048576: true; the input reads as it did. -/
def bayesOwnUptoRow : OpenClaim := { program := "ytpkakapbepkfdaa", sum := "f4cda7410db1743c19be256fcdb36fd8e06df9ff8060e056abcd00b2bf58a02d", func := "turndown/turndownlaw01.BayesOwn", spec := "bayesOwn", unfollowed := true, recurses := true, apart := false, narrowed := true }
def BayesOwnUptoSaid : Prop := bayesOwnUptoRow.holds Try.pinned (OpenSpec.upto bayesOwnSpec)

end Rows
end Go.Proofs.Ytpkakapbepkfdaa
