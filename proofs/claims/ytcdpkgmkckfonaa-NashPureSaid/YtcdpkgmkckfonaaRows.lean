/-
  No cell of these rows narrows 'for every input' (looked for: loops, veiled, ifaces, maps, wideKeys, modest, calm, conditions, laid).
  DERIVED. THE GIVEN ROWS OF THIS SEAT. 9 by the template 'for every input the law returns true; each argument reads behind the call as it read before'; 0 by the template 'total and deterministic' (their statements: YtcdpkgmkckfonaaTotals.lean).
  GIVEN WITH THE SEED: the statements are not yours to turn. If you find one false, say at which input.
  Laid BY PROGRAM, IN A SANDBOX (cutbox-rows.mjs): the forced cells as the released guide's own fill.sh prints them over the translation 6aaa76cd433a6dd9… (all of the seat's roots in one cut). By AI agents, Wed Nov 11 2026. No macro, syntax, notation, axiom, sorry.
-/
import Derived.Test.YtcdpkgmkckfonaaChecked
import GoSem.Claim
import GoSem.ClaimJoined
import GoSem.ClaimMapViews
import Derived.JoinedTies
import Derived.KernelRfl
namespace Go.Proofs.Ytcdpkgmkckfonaa
/- THE CELL 'sum', in the pinned program and in every row, IS THE sha256 OF THE DUMP (.gsa) THAT YtcdpkgmkckfonaaProg.lean LOADS. Nothing in Lean hashes anything: it is a label: what it is worth is what the hold of that sum in a sandbox is worth. -/
noncomputable def Try.pinned : Pinned := { name := "ytcdpkgmkckfonaa", sum := "6aaa76cd433a6dd9a205e06312cd8965a4fc11f1b60bb06f31d3bca27ef82fc0", checked := Try.checked }
namespace Rows
def none {H : Type} : Left H := { results := [], args := [] }

/-- 'turndownlaw03.NashBounds': WHATEVER THE INPUT: true; the input reads as it did. -/
def nashBoundsSpec : ChangeSpec := { name := "nashBounds", fn := fun _ => fun
  | [d1, d2] => { results := [.lit (.bool true)], args := [d1, d2] }
  | _ => none }
def nashBoundsRow : OpenClaim := { program := "ytcdpkgmkckfonaa", sum := "6aaa76cd433a6dd9a205e06312cd8965a4fc11f1b60bb06f31d3bca27ef82fc0", func := "turndown/turndownlaw03.NashBounds", spec := "nashBounds", unfollowed := true, recurses := true, apart := false }
def NashBoundsSaid : Prop := nashBoundsRow.holds Try.pinned (OpenSpec.ofChange nashBoundsSpec)

/-- ITS FALSE NEIGHBOUR: 'it returns false'. Refute it at one input. -/
def nashBoundsWrong : ChangeSpec := { name := "nashBounds", fn := fun _ => fun
  | [d1, d2] => { results := [.lit (.bool false)], args := [d1, d2] }
  | _ => none }
def NashBoundsWrongFalsely : Prop := nashBoundsRow.holds Try.pinned (OpenSpec.ofChange nashBoundsWrong)

/-- 'turndownlaw03.NashValues': WHATEVER THE INPUT: true; the input reads as it did. -/
def nashValuesSpec : ChangeSpec := { name := "nashValues", fn := fun _ => fun
  | [d] => { results := [.lit (.bool true)], args := [d] }
  | _ => none }
def nashValuesRow : OpenClaim := { program := "ytcdpkgmkckfonaa", sum := "6aaa76cd433a6dd9a205e06312cd8965a4fc11f1b60bb06f31d3bca27ef82fc0", func := "turndown/turndownlaw03.NashValues", spec := "nashValues", unfollowed := true, recurses := true, apart := false }
def NashValuesSaid : Prop := nashValuesRow.holds Try.pinned (OpenSpec.ofChange nashValuesSpec)

/-- ITS FALSE NEIGHBOUR: 'it returns false'. Refute it at one input. -/
def nashValuesWrong : ChangeSpec := { name := "nashValues", fn := fun _ => fun
  | [d] => { results := [.lit (.bool false)], args := [d] }
  | _ => none }
def NashValuesWrongFalsely : Prop := nashValuesRow.holds Try.pinned (OpenSpec.ofChange nashValuesWrong)

/-- 'turndownlaw03.NashPure': WHATEVER THE INPUT: true; the input reads as it did. -/
def nashPureSpec : ChangeSpec := { name := "nashPure", fn := fun _ => fun
  | [d] => { results := [.lit (.bool true)], args := [d] }
  | _ => none }
def nashPureRow : OpenClaim := { program := "ytcdpkgmkckfonaa", sum := "6aaa76cd433a6dd9a205e06312cd8965a4fc11f1b60bb06f31d3bca27ef82fc0", func := "turndown/turndownlaw03.NashPure", spec := "nashPure", unfollowed := true, recurses := true, apart := false }
def NashPureSaid : Prop := nashPureRow.holds Try.pinned (OpenSpec.ofChange nashPureSpec)

/-- ITS FALSE NEIGHBOUR: 'it returns false'. Refute it at one input. -/
def nashPureWrong : ChangeSpec := { name := "nashPure", fn := fun _ => fun
  | [d] => { results := [.lit (.bool false)], args := [d] }
  | _ => none }
def NashPureWrongFalsely : Prop := nashPureRow.holds Try.pinned (OpenSpec.ofChange nashPureWrong)

/-- 'turndownlaw03.NashSolves': WHATEVER THE INPUT: true; the input reads as it did. -/
def nashSolvesSpec : ChangeSpec := { name := "nashSolves", fn := fun _ => fun
  | [d] => { results := [.lit (.bool true)], args := [d] }
  | _ => none }
def nashSolvesRow : OpenClaim := { program := "ytcdpkgmkckfonaa", sum := "6aaa76cd433a6dd9a205e06312cd8965a4fc11f1b60bb06f31d3bca27ef82fc0", func := "turndown/turndownlaw03.NashSolves", spec := "nashSolves", unfollowed := true, recurses := true, apart := false }
def NashSolvesSaid : Prop := nashSolvesRow.holds Try.pinned (OpenSpec.ofChange nashSolvesSpec)

/-- ITS FALSE NEIGHBOUR: 'it returns false'. Refute it at one input. -/
def nashSolvesWrong : ChangeSpec := { name := "nashSolves", fn := fun _ => fun
  | [d] => { results := [.lit (.bool false)], args := [d] }
  | _ => none }
def NashSolvesWrongFalsely : Prop := nashSolvesRow.holds Try.pinned (OpenSpec.ofChange nashSolvesWrong)

/-- 'turndownlaw03.NashShifted': WHATEVER THE INPUT: true; the input reads as it did. -/
def nashShiftedSpec : ChangeSpec := { name := "nashShifted", fn := fun _ => fun
  | [d1, d2, d3] => { results := [.lit (.bool true)], args := [d1, d2, d3] }
  | _ => none }
def nashShiftedRow : OpenClaim := { program := "ytcdpkgmkckfonaa", sum := "6aaa76cd433a6dd9a205e06312cd8965a4fc11f1b60bb06f31d3bca27ef82fc0", func := "turndown/turndownlaw03.NashShifted", spec := "nashShifted", unfollowed := true, recurses := true, apart := false }
def NashShiftedSaid : Prop := nashShiftedRow.holds Try.pinned (OpenSpec.ofChange nashShiftedSpec)

/-- ITS FALSE NEIGHBOUR: 'it returns false'. Refute it at one input. -/
def nashShiftedWrong : ChangeSpec := { name := "nashShifted", fn := fun _ => fun
  | [d1, d2, d3] => { results := [.lit (.bool false)], args := [d1, d2, d3] }
  | _ => none }
def NashShiftedWrongFalsely : Prop := nashShiftedRow.holds Try.pinned (OpenSpec.ofChange nashShiftedWrong)

/-- 'turndownlaw03.NashOwn': WHATEVER THE INPUT: true; the input reads as it did. -/
def nashOwnSpec : ChangeSpec := { name := "nashOwn", fn := fun _ => fun
  | [d] => { results := [.lit (.bool true)], args := [d] }
  | _ => none }
def nashOwnRow : OpenClaim := { program := "ytcdpkgmkckfonaa", sum := "6aaa76cd433a6dd9a205e06312cd8965a4fc11f1b60bb06f31d3bca27ef82fc0", func := "turndown/turndownlaw03.NashOwn", spec := "nashOwn", unfollowed := true, recurses := true, apart := false }
def NashOwnSaid : Prop := nashOwnRow.holds Try.pinned (OpenSpec.ofChange nashOwnSpec)

/-- ITS FALSE NEIGHBOUR: 'it returns false'. Refute it at one input. -/
def nashOwnWrong : ChangeSpec := { name := "nashOwn", fn := fun _ => fun
  | [d] => { results := [.lit (.bool false)], args := [d] }
  | _ => none }
def NashOwnWrongFalsely : Prop := nashOwnRow.holds Try.pinned (OpenSpec.ofChange nashOwnWrong)

/-- 'turndownlaw03.NashChecks': WHATEVER THE INPUT: true; the input reads as it did. -/
def nashChecksSpec : ChangeSpec := { name := "nashChecks", fn := fun _ => fun
  | [d1, d2] => { results := [.lit (.bool true)], args := [d1, d2] }
  | _ => none }
def nashChecksRow : OpenClaim := { program := "ytcdpkgmkckfonaa", sum := "6aaa76cd433a6dd9a205e06312cd8965a4fc11f1b60bb06f31d3bca27ef82fc0", func := "turndown/turndownlaw03.NashChecks", spec := "nashChecks", unfollowed := true, recurses := true, apart := false }
def NashChecksSaid : Prop := nashChecksRow.holds Try.pinned (OpenSpec.ofChange nashChecksSpec)

/-- ITS FALSE NEIGHBOUR: 'it returns false'. Refute it at one input. -/
def nashChecksWrong : ChangeSpec := { name := "nashChecks", fn := fun _ => fun
  | [d1, d2] => { results := [.lit (.bool false)], args := [d1, d2] }
  | _ => none }
def NashChecksWrongFalsely : Prop := nashChecksRow.holds Try.pinned (OpenSpec.ofChange nashChecksWrong)

/-- 'turndownlaw03.NashNever': WHATEVER THE INPUT: true; the input reads as it did. -/
def nashNeverSpec : ChangeSpec := { name := "nashNever", fn := fun _ => fun
  | [d1, d2] => { results := [.lit (.bool true)], args := [d1, d2] }
  | _ => none }
def nashNeverRow : OpenClaim := { program := "ytcdpkgmkckfonaa", sum := "6aaa76cd433a6dd9a205e06312cd8965a4fc11f1b60bb06f31d3bca27ef82fc0", func := "turndown/turndownlaw03.NashNever", spec := "nashNever", unfollowed := true, recurses := true, apart := false }
def NashNeverSaid : Prop := nashNeverRow.holds Try.pinned (OpenSpec.ofChange nashNeverSpec)

/-- ITS FALSE NEIGHBOUR: 'it returns false'. Refute it at one input. -/
def nashNeverWrong : ChangeSpec := { name := "nashNever", fn := fun _ => fun
  | [d1, d2] => { results := [.lit (.bool false)], args := [d1, d2] }
  | _ => none }
def NashNeverWrongFalsely : Prop := nashNeverRow.holds Try.pinned (OpenSpec.ofChange nashNeverWrong)

/-- 'turndownlaw03.NashSides': WHATEVER THE INPUT: true; the input reads as it did. -/
def nashSidesSpec : ChangeSpec := { name := "nashSides", fn := fun _ => fun
  | [d] => { results := [.lit (.bool true)], args := [d] }
  | _ => none }
def nashSidesRow : OpenClaim := { program := "ytcdpkgmkckfonaa", sum := "6aaa76cd433a6dd9a205e06312cd8965a4fc11f1b60bb06f31d3bca27ef82fc0", func := "turndown/turndownlaw03.NashSides", spec := "nashSides", unfollowed := true, recurses := true, apart := false }
def NashSidesSaid : Prop := nashSidesRow.holds Try.pinned (OpenSpec.ofChange nashSidesSpec)

/-- ITS FALSE NEIGHBOUR: 'it returns false'. Refute it at one input. -/
def nashSidesWrong : ChangeSpec := { name := "nashSides", fn := fun _ => fun
  | [d] => { results := [.lit (.bool false)], args := [d] }
  | _ => none }
def NashSidesWrongFalsely : Prop := nashSidesRow.holds Try.pinned (OpenSpec.ofChange nashSidesWrong)

/- THE SECOND FORM. 'bulk': how many values and letters a reading holds, each counted each time it is reached (what is shared counts as often as it is met; a slice's spare places count too). A statement '..UptoSaid' is the law's where the arguments, and the package variables that the reading takes, are together of bulk at most 1048576: NARROWER than '..Said'. Prove '..Said' where nothing that the law and all that it calls make is longer than what came in: it says more and counts as full. Else prove '..UptoSaid'. A law counts once. -/
mutual
def uptoBulk {H : Type} : DataW H → Nat
  | .lit (.string bytes) => bytes.length + 1
  | .lit _ => 1
  | .nil => 1
  | .ptr d => uptoBulk d + 1
  | .slice elems spare => uptoBulkAll elems + uptoBulkAll spare + 1
  | .agg parts => uptoBulkAll parts + 1
  | .iface _ d => uptoBulk d + 1
  | .map entries => uptoBulkEntries entries + 1
  | .held _ => 1
def uptoBulkAll {H : Type} : List (DataW H) → Nat
  | [] => 0
  | d :: r => uptoBulk d + uptoBulkAll r
def uptoBulkEntries {H : Type} : List (Lit × DataW H) → Nat
  | [] => 0
  | x :: r => uptoBulkEntry x + uptoBulkEntries r
def uptoBulkEntry {H : Type} : Lit × DataW H → Nat
  | (.string bytes, d) => bytes.length + uptoBulk d + 1
  | (_, d) => uptoBulk d + 1
 end
def uptoSmall : (H : Type) → List (DataW H) → Bool := fun _ ds => decide (uptoBulkAll ds ≤ 1048576)
def OpenSpec.upto (s : _root_.Go.ChangeSpec) : _root_.Go.OpenSpec := { _root_.Go.OpenSpec.ofChange s with cond := some uptoSmall }

/-- 'turndownlaw03.NashBounds', WHERE WHAT IT READS IS OF BULK AT MOST 1048576: true; the input reads as it did. -/
def nashBoundsUptoRow : OpenClaim := { program := "ytcdpkgmkckfonaa", sum := "6aaa76cd433a6dd9a205e06312cd8965a4fc11f1b60bb06f31d3bca27ef82fc0", func := "turndown/turndownlaw03.NashBounds", spec := "nashBounds", unfollowed := true, recurses := true, apart := false, narrowed := true }
def NashBoundsUptoSaid : Prop := nashBoundsUptoRow.holds Try.pinned (OpenSpec.upto nashBoundsSpec)

/-- 'turndownlaw03.NashValues', WHERE WHAT IT READS IS OF BULK AT MOST 1048576: true; the input reads as it did. -/
def nashValuesUptoRow : OpenClaim := { program := "ytcdpkgmkckfonaa", sum := "6aaa76cd433a6dd9a205e06312cd8965a4fc11f1b60bb06f31d3bca27ef82fc0", func := "turndown/turndownlaw03.NashValues", spec := "nashValues", unfollowed := true, recurses := true, apart := false, narrowed := true }
def NashValuesUptoSaid : Prop := nashValuesUptoRow.holds Try.pinned (OpenSpec.upto nashValuesSpec)

/-- 'turndownlaw03.NashPure', WHERE WHAT IT READS IS OF BULK AT MOST 1048576: true; the input reads as it did. -/
def nashPureUptoRow : OpenClaim := { program := "ytcdpkgmkckfonaa", sum := "6aaa76cd433a6dd9a205e06312cd8965a4fc11f1b60bb06f31d3bca27ef82fc0", func := "turndown/turndownlaw03.NashPure", spec := "nashPure", unfollowed := true, recurses := true, apart := false, narrowed := true }
def NashPureUptoSaid : Prop := nashPureUptoRow.holds Try.pinned (OpenSpec.upto nashPureSpec)

/-- 'turndownlaw03.NashSolves', WHERE WHAT IT READS IS OF BULK AT MOST 1048576: true; the input reads as it did. -/
def nashSolvesUptoRow : OpenClaim := { program := "ytcdpkgmkckfonaa", sum := "6aaa76cd433a6dd9a205e06312cd8965a4fc11f1b60bb06f31d3bca27ef82fc0", func := "turndown/turndownlaw03.NashSolves", spec := "nashSolves", unfollowed := true, recurses := true, apart := false, narrowed := true }
def NashSolvesUptoSaid : Prop := nashSolvesUptoRow.holds Try.pinned (OpenSpec.upto nashSolvesSpec)

/-- 'turndownlaw03.NashShifted', WHERE WHAT IT READS IS OF BULK AT MOST 1048576: true; the input reads as it did. -/
def nashShiftedUptoRow : OpenClaim := { program := "ytcdpkgmkckfonaa", sum := "6aaa76cd433a6dd9a205e06312cd8965a4fc11f1b60bb06f31d3bca27ef82fc0", func := "turndown/turndownlaw03.NashShifted", spec := "nashShifted", unfollowed := true, recurses := true, apart := false, narrowed := true }
def NashShiftedUptoSaid : Prop := nashShiftedUptoRow.holds Try.pinned (OpenSpec.upto nashShiftedSpec)

/-- 'turndownlaw03.NashOwn', WHERE WHAT IT READS IS OF BULK AT MOST 1048576: true; the input reads as it did. -/
def nashOwnUptoRow : OpenClaim := { program := "ytcdpkgmkckfonaa", sum := "6aaa76cd433a6dd9a205e06312cd8965a4fc11f1b60bb06f31d3bca27ef82fc0", func := "turndown/turndownlaw03.NashOwn", spec := "nashOwn", unfollowed := true, recurses := true, apart := false, narrowed := true }
def NashOwnUptoSaid : Prop := nashOwnUptoRow.holds Try.pinned (OpenSpec.upto nashOwnSpec)

/-- 'turndownlaw03.NashChecks', WHERE WHAT IT READS IS OF BULK AT MOST 1048576: true; the input reads as it did. -/
def nashChecksUptoRow : OpenClaim := { program := "ytcdpkgmkckfonaa", sum := "6aaa76cd433a6dd9a205e06312cd8965a4fc11f1b60bb06f31d3bca27ef82fc0", func := "turndown/turndownlaw03.NashChecks", spec := "nashChecks", unfollowed := true, recurses := true, apart := false, narrowed := true }
def NashChecksUptoSaid : Prop := nashChecksUptoRow.holds Try.pinned (OpenSpec.upto nashChecksSpec)

/-- 'turndownlaw03.NashNever', WHERE WHAT IT READS IS OF BULK AT MOST 1048576: true; the input reads as it did. -/
def nashNeverUptoRow : OpenClaim := { program := "ytcdpkgmkckfonaa", sum := "6aaa76cd433a6dd9a205e06312cd8965a4fc11f1b60bb06f31d3bca27ef82fc0", func := "turndown/turndownlaw03.NashNever", spec := "nashNever", unfollowed := true, recurses := true, apart := false, narrowed := true }
def NashNeverUptoSaid : Prop := nashNeverUptoRow.holds Try.pinned (OpenSpec.upto nashNeverSpec)

/-- 'turndownlaw03.NashSides', WHERE WHAT IT READS IS OF BULK AT MOST 1048576: true; the input reads as it did. -/
def nashSidesUptoRow : OpenClaim := { program := "ytcdpkgmkckfonaa", sum := "6aaa76cd433a6dd9a205e06312cd8965a4fc11f1b60bb06f31d3bca27ef82fc0", func := "turndown/turndownlaw03.NashSides", spec := "nashSides", unfollowed := true, recurses := true, apart := false, narrowed := true }
def NashSidesUptoSaid : Prop := nashSidesUptoRow.holds Try.pinned (OpenSpec.upto nashSidesSpec)

end Rows
end Go.Proofs.Ytcdpkgmkckfonaa
