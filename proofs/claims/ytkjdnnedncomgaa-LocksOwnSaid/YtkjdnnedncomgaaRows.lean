/-
  No cell of these rows narrows 'for every input' (looked for: loops, veiled, ifaces, maps, wideKeys, modest, calm, conditions, laid).
  DERIVED. THE GIVEN ROWS OF THIS SEAT. 8 by the template 'for every input the law returns true; each argument reads behind the call as it read before'; 0 by the template 'total and deterministic' (their statements: YtkjdnnedncomgaaTotals.lean).
  GIVEN WITH THE SEED: the statements are not yours to turn. If you find one false, say at which input.
  Laid BY PROGRAM, IN A SANDBOX (cutbox-rows.mjs): the forced cells as the released guide's own fill.sh prints them over the translation 3ae983b87bc75c17… (all of the seat's roots in one cut). By AI agents, Wed Nov 11 2026. No macro, syntax, notation, axiom, sorry.
-/
import Derived.Test.YtkjdnnedncomgaaChecked
import GoSem.Claim
import GoSem.ClaimJoined
import GoSem.ClaimMapViews
import Derived.JoinedTies
import Derived.KernelRfl
namespace Go.Proofs.Ytkjdnnedncomgaa
/- THE CELL 'sum', in the pinned program and in every row, IS THE sha256 OF THE DUMP (.gsa) THAT YtkjdnnedncomgaaProg.lean LOADS. Nothing in Lean hashes anything: it is a label: what it is worth is what the hold of that sum in a sandbox is worth. -/
noncomputable def Try.pinned : Pinned := { name := "ytkjdnnedncomgaa", sum := "3ae983b87bc75c17d98a2b7fafa897eb18f9a95146dbac4c00ecfb5fceb4e0e2", checked := Try.checked }
namespace Rows
def none {H : Type} : Left H := { results := [], args := [] }

/-- 'turndownlaw05.LocksKeys': WHATEVER THE INPUT: true; the input reads as it did. -/
def locksKeysSpec : ChangeSpec := { name := "locksKeys", fn := fun _ => fun
  | [d1, d2, d3] => { results := [.lit (.bool true)], args := [d1, d2, d3] }
  | _ => none }
def locksKeysRow : OpenClaim := { program := "ytkjdnnedncomgaa", sum := "3ae983b87bc75c17d98a2b7fafa897eb18f9a95146dbac4c00ecfb5fceb4e0e2", func := "turndown/turndownlaw05.LocksKeys", spec := "locksKeys", unfollowed := true, recurses := true, apart := false }
def LocksKeysSaid : Prop := locksKeysRow.holds Try.pinned (OpenSpec.ofChange locksKeysSpec)

/-- ITS FALSE NEIGHBOUR: 'it returns false'. Refute it at one input. -/
def locksKeysWrong : ChangeSpec := { name := "locksKeys", fn := fun _ => fun
  | [d1, d2, d3] => { results := [.lit (.bool false)], args := [d1, d2, d3] }
  | _ => none }
def LocksKeysWrongFalsely : Prop := locksKeysRow.holds Try.pinned (OpenSpec.ofChange locksKeysWrong)

/-- 'turndownlaw05.LocksOne': WHATEVER THE INPUT: true; the input reads as it did. -/
def locksOneSpec : ChangeSpec := { name := "locksOne", fn := fun _ => fun
  | [d1, d2] => { results := [.lit (.bool true)], args := [d1, d2] }
  | _ => none }
def locksOneRow : OpenClaim := { program := "ytkjdnnedncomgaa", sum := "3ae983b87bc75c17d98a2b7fafa897eb18f9a95146dbac4c00ecfb5fceb4e0e2", func := "turndown/turndownlaw05.LocksOne", spec := "locksOne", unfollowed := true, recurses := true, apart := false }
def LocksOneSaid : Prop := locksOneRow.holds Try.pinned (OpenSpec.ofChange locksOneSpec)

/-- ITS FALSE NEIGHBOUR: 'it returns false'. Refute it at one input. -/
def locksOneWrong : ChangeSpec := { name := "locksOne", fn := fun _ => fun
  | [d1, d2] => { results := [.lit (.bool false)], args := [d1, d2] }
  | _ => none }
def LocksOneWrongFalsely : Prop := locksOneRow.holds Try.pinned (OpenSpec.ofChange locksOneWrong)

/-- 'turndownlaw05.LocksPlans': WHATEVER THE INPUT: true; the input reads as it did. -/
def locksPlansSpec : ChangeSpec := { name := "locksPlans", fn := fun _ => fun
  | [d1, d2] => { results := [.lit (.bool true)], args := [d1, d2] }
  | _ => none }
def locksPlansRow : OpenClaim := { program := "ytkjdnnedncomgaa", sum := "3ae983b87bc75c17d98a2b7fafa897eb18f9a95146dbac4c00ecfb5fceb4e0e2", func := "turndown/turndownlaw05.LocksPlans", spec := "locksPlans", unfollowed := true, recurses := true, apart := false }
def LocksPlansSaid : Prop := locksPlansRow.holds Try.pinned (OpenSpec.ofChange locksPlansSpec)

/-- ITS FALSE NEIGHBOUR: 'it returns false'. Refute it at one input. -/
def locksPlansWrong : ChangeSpec := { name := "locksPlans", fn := fun _ => fun
  | [d1, d2] => { results := [.lit (.bool false)], args := [d1, d2] }
  | _ => none }
def LocksPlansWrongFalsely : Prop := locksPlansRow.holds Try.pinned (OpenSpec.ofChange locksPlansWrong)

/-- 'turndownlaw05.LocksChecks': WHATEVER THE INPUT: true; the input reads as it did. -/
def locksChecksSpec : ChangeSpec := { name := "locksChecks", fn := fun _ => fun
  | [d1, d2, d3] => { results := [.lit (.bool true)], args := [d1, d2, d3] }
  | _ => none }
def locksChecksRow : OpenClaim := { program := "ytkjdnnedncomgaa", sum := "3ae983b87bc75c17d98a2b7fafa897eb18f9a95146dbac4c00ecfb5fceb4e0e2", func := "turndown/turndownlaw05.LocksChecks", spec := "locksChecks", unfollowed := true, recurses := true, apart := false }
def LocksChecksSaid : Prop := locksChecksRow.holds Try.pinned (OpenSpec.ofChange locksChecksSpec)

/-- ITS FALSE NEIGHBOUR: 'it returns false'. Refute it at one input. -/
def locksChecksWrong : ChangeSpec := { name := "locksChecks", fn := fun _ => fun
  | [d1, d2, d3] => { results := [.lit (.bool false)], args := [d1, d2, d3] }
  | _ => none }
def LocksChecksWrongFalsely : Prop := locksChecksRow.holds Try.pinned (OpenSpec.ofChange locksChecksWrong)

/-- 'turndownlaw05.LocksSwaps': WHATEVER THE INPUT: true; the input reads as it did. -/
def locksSwapsSpec : ChangeSpec := { name := "locksSwaps", fn := fun _ => fun
  | [d1, d2, d3] => { results := [.lit (.bool true)], args := [d1, d2, d3] }
  | _ => none }
def locksSwapsRow : OpenClaim := { program := "ytkjdnnedncomgaa", sum := "3ae983b87bc75c17d98a2b7fafa897eb18f9a95146dbac4c00ecfb5fceb4e0e2", func := "turndown/turndownlaw05.LocksSwaps", spec := "locksSwaps", unfollowed := true, recurses := true, apart := false }
def LocksSwapsSaid : Prop := locksSwapsRow.holds Try.pinned (OpenSpec.ofChange locksSwapsSpec)

/-- ITS FALSE NEIGHBOUR: 'it returns false'. Refute it at one input. -/
def locksSwapsWrong : ChangeSpec := { name := "locksSwaps", fn := fun _ => fun
  | [d1, d2, d3] => { results := [.lit (.bool false)], args := [d1, d2, d3] }
  | _ => none }
def LocksSwapsWrongFalsely : Prop := locksSwapsRow.holds Try.pinned (OpenSpec.ofChange locksSwapsWrong)

/-- 'turndownlaw05.LocksMerges': WHATEVER THE INPUT: true; the input reads as it did. -/
def locksMergesSpec : ChangeSpec := { name := "locksMerges", fn := fun _ => fun
  | [d] => { results := [.lit (.bool true)], args := [d] }
  | _ => none }
def locksMergesRow : OpenClaim := { program := "ytkjdnnedncomgaa", sum := "3ae983b87bc75c17d98a2b7fafa897eb18f9a95146dbac4c00ecfb5fceb4e0e2", func := "turndown/turndownlaw05.LocksMerges", spec := "locksMerges", unfollowed := true, recurses := true, apart := false }
def LocksMergesSaid : Prop := locksMergesRow.holds Try.pinned (OpenSpec.ofChange locksMergesSpec)

/-- ITS FALSE NEIGHBOUR: 'it returns false'. Refute it at one input. -/
def locksMergesWrong : ChangeSpec := { name := "locksMerges", fn := fun _ => fun
  | [d] => { results := [.lit (.bool false)], args := [d] }
  | _ => none }
def LocksMergesWrongFalsely : Prop := locksMergesRow.holds Try.pinned (OpenSpec.ofChange locksMergesWrong)

/-- 'turndownlaw05.LocksMore': WHATEVER THE INPUT: true; the input reads as it did. -/
def locksMoreSpec : ChangeSpec := { name := "locksMore", fn := fun _ => fun
  | [d1, d2] => { results := [.lit (.bool true)], args := [d1, d2] }
  | _ => none }
def locksMoreRow : OpenClaim := { program := "ytkjdnnedncomgaa", sum := "3ae983b87bc75c17d98a2b7fafa897eb18f9a95146dbac4c00ecfb5fceb4e0e2", func := "turndown/turndownlaw05.LocksMore", spec := "locksMore", unfollowed := true, recurses := true, apart := false }
def LocksMoreSaid : Prop := locksMoreRow.holds Try.pinned (OpenSpec.ofChange locksMoreSpec)

/-- ITS FALSE NEIGHBOUR: 'it returns false'. Refute it at one input. -/
def locksMoreWrong : ChangeSpec := { name := "locksMore", fn := fun _ => fun
  | [d1, d2] => { results := [.lit (.bool false)], args := [d1, d2] }
  | _ => none }
def LocksMoreWrongFalsely : Prop := locksMoreRow.holds Try.pinned (OpenSpec.ofChange locksMoreWrong)

/-- 'turndownlaw05.LocksOwn': WHATEVER THE INPUT: true; the input reads as it did. -/
def locksOwnSpec : ChangeSpec := { name := "locksOwn", fn := fun _ => fun
  | [d1, d2] => { results := [.lit (.bool true)], args := [d1, d2] }
  | _ => none }
def locksOwnRow : OpenClaim := { program := "ytkjdnnedncomgaa", sum := "3ae983b87bc75c17d98a2b7fafa897eb18f9a95146dbac4c00ecfb5fceb4e0e2", func := "turndown/turndownlaw05.LocksOwn", spec := "locksOwn", unfollowed := true, recurses := true, apart := false }
def LocksOwnSaid : Prop := locksOwnRow.holds Try.pinned (OpenSpec.ofChange locksOwnSpec)

/-- ITS FALSE NEIGHBOUR: 'it returns false'. Refute it at one input. -/
def locksOwnWrong : ChangeSpec := { name := "locksOwn", fn := fun _ => fun
  | [d1, d2] => { results := [.lit (.bool false)], args := [d1, d2] }
  | _ => none }
def LocksOwnWrongFalsely : Prop := locksOwnRow.holds Try.pinned (OpenSpec.ofChange locksOwnWrong)

/- THE SECOND FORM. 'bulk': how many values and letters a reading holds, each counted each time it is reached (what is shared counts as often as it is met; a slice's spare places count too). A statement '..UptoSaid' is the law's where the arguments, and the package variables that the reading takes, are together of bulk at most 1048576: NARROWER than '..Said'. Prove '..Said' where nothing that the law and all that it calls make is longer than what came in: it says more and counts as full. Else prove '..UptoSaid'. A law counts once. -/
mutual
def uptoBulk {H : Type} : DataW H → Nat
  | .lit (.string bytes) => bytes.length + 1
  | .lit _ => 1
  | .nil => 1
  | .ptr d => uptoBulk d + 1
  | .slice elems spare => uptoBulkAll elems + uptoBulkAll spare + 1
  | .agg parts => uptoBulkAll parts + 1
  | .iface _ d => uptoBulk d + 1
  | .map entries => uptoBulkEntries entries + 1
  | .held _ => 1
def uptoBulkAll {H : Type} : List (DataW H) → Nat
  | [] => 0
  | d :: r => uptoBulk d + uptoBulkAll r
def uptoBulkEntries {H : Type} : List (Lit × DataW H) → Nat
  | [] => 0
  | x :: r => uptoBulkEntry x + uptoBulkEntries r
def uptoBulkEntry {H : Type} : Lit × DataW H → Nat
  | (.string bytes, d) => bytes.length + uptoBulk d + 1
  | (_, d) => uptoBulk d + 1
 end
def uptoSmall : (H : Type) → List (DataW H) → Bool := fun _ ds => decide (uptoBulkAll ds ≤ 1048576)
def OpenSpec.upto (s : _root_.Go.ChangeSpec) : _root_.Go.OpenSpec := { _root_.Go.OpenSpec.ofChange s with cond := some uptoSmall }

/-- 'turndownlaw05.LocksKeys', WHERE WHAT IT READS IS OF BULK AT MOST 1048576: true; the input reads as it did. -/
def locksKeysUptoRow : OpenClaim := { program := "ytkjdnnedncomgaa", sum := "3ae983b87bc75c17d98a2b7fafa897eb18f9a95146dbac4c00ecfb5fceb4e0e2", func := "turndown/turndownlaw05.LocksKeys", spec := "locksKeys", unfollowed := true, recurses := true, apart := false, narrowed := true }
def LocksKeysUptoSaid : Prop := locksKeysUptoRow.holds Try.pinned (OpenSpec.upto locksKeysSpec)

/-- 'turndownlaw05.LocksOne', WHERE WHAT IT READS IS OF BULK AT MOST 1048576: true; the input reads as it did. -/
def locksOneUptoRow : OpenClaim := { program := "ytkjdnnedncomgaa", sum := "3ae983b87bc75c17d98a2b7fafa897eb18f9a95146dbac4c00ecfb5fceb4e0e2", func := "turndown/turndownlaw05.LocksOne", spec := "locksOne", unfollowed := true, recurses := true, apart := false, narrowed := true }
def LocksOneUptoSaid : Prop := locksOneUptoRow.holds Try.pinned (OpenSpec.upto locksOneSpec)

/-- 'turndownlaw05.LocksPlans', WHERE WHAT IT READS IS OF BULK AT MOST 1048576: true; the input reads as it did. -/
def locksPlansUptoRow : OpenClaim := { program := "ytkjdnnedncomgaa", sum := "3ae983b87bc75c17d98a2b7fafa897eb18f9a95146dbac4c00ecfb5fceb4e0e2", func := "turndown/turndownlaw05.LocksPlans", spec := "locksPlans", unfollowed := true, recurses := true, apart := false, narrowed := true }
def LocksPlansUptoSaid : Prop := locksPlansUptoRow.holds Try.pinned (OpenSpec.upto locksPlansSpec)

/-- 'turndownlaw05.LocksChecks', WHERE WHAT IT READS IS OF BULK AT MOST 1048576: true; the input reads as it did. -/
def locksChecksUptoRow : OpenClaim := { program := "ytkjdnnedncomgaa", sum := "3ae983b87bc75c17d98a2b7fafa897eb18f9a95146dbac4c00ecfb5fceb4e0e2", func := "turndown/turndownlaw05.LocksChecks", spec := "locksChecks", unfollowed := true, recurses := true, apart := false, narrowed := true }
def LocksChecksUptoSaid : Prop := locksChecksUptoRow.holds Try.pinned (OpenSpec.upto locksChecksSpec)

/-- 'turndownlaw05.LocksSwaps', WHERE WHAT IT READS IS OF BULK AT MOST 1048576: true; the input reads as it did. -/
def locksSwapsUptoRow : OpenClaim := { program := "ytkjdnnedncomgaa", sum := "3ae983b87bc75c17d98a2b7fafa897eb18f9a95146dbac4c00ecfb5fceb4e0e2", func := "turndown/turndownlaw05.LocksSwaps", spec := "locksSwaps", unfollowed := true, recurses := true, apart := false, narrowed := true }
def LocksSwapsUptoSaid : Prop := locksSwapsUptoRow.holds Try.pinned (OpenSpec.upto locksSwapsSpec)

/-- 'turndownlaw05.LocksMerges', WHERE WHAT IT READS IS OF BULK AT MOST 1048576: true; the input reads as it did. -/
def locksMergesUptoRow : OpenClaim := { program := "ytkjdnnedncomgaa", sum := "3ae983b87bc75c17d98a2b7fafa897eb18f9a95146dbac4c00ecfb5fceb4e0e2", func := "turndown/turndownlaw05.LocksMerges", spec := "locksMerges", unfollowed := true, recurses := true, apart := false, narrowed := true }
def LocksMergesUptoSaid : Prop := locksMergesUptoRow.holds Try.pinned (OpenSpec.upto locksMergesSpec)

/-- 'turndownlaw05.LocksMore', WHERE WHAT IT READS IS OF BULK AT MOST 1048576: true; the input reads as it did. -/
def locksMoreUptoRow : OpenClaim := { program := "ytkjdnnedncomgaa", sum := "3ae983b87bc75c17d98a2b7fafa897eb18f9a95146dbac4c00ecfb5fceb4e0e2", func := "turndown/turndownlaw05.LocksMore", spec := "locksMore", unfollowed := true, recurses := true, apart := false, narrowed := true }
def LocksMoreUptoSaid : Prop := locksMoreUptoRow.holds Try.pinned (OpenSpec.upto locksMoreSpec)

/-- 'turndownlaw05.LocksOwn', WHERE WHAT IT READS IS OF BULK AT MOST 1048576: true; the input reads as it did. -/
def locksOwnUptoRow : OpenClaim := { program := "ytkjdnnedncomgaa", sum := "3ae983b87bc75c17d98a2b7fafa897eb18f9a95146dbac4c00ecfb5fceb4e0e2", func := "turndown/turndownlaw05.LocksOwn", spec := "locksOwn", unfollowed := true, recurses := true, apart := false, narrowed := true }
def LocksOwnUptoSaid : Prop := locksOwnUptoRow.holds Try.pinned (OpenSpec.upto locksOwnSpec)

end Rows
end Go.Proofs.Ytkjdnnedncomgaa
