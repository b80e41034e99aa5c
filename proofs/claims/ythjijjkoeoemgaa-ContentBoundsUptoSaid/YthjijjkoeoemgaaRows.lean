/-
  No cell of these rows narrows 'for every input' (looked for: loops, veiled, ifaces, maps, wideKeys, modest, calm, conditions, laid).
  DERIVED. THE GIVEN ROWS OF THIS SEAT. 4 by the template 'for every input the law returns true; each argument reads behind the call as it read before'; 0 by the template 'total and deterministic' (their statements: YthjijjkoeoemgaaTotals.lean).
  GIVEN WITH THE SEED: the statements are not yours to turn. If you find one false, say at which input.
  Laid BY PROGRAM, IN A SANDBOX (cutbox-rows.mjs): the forced cells as the released guide's own fill.sh prints them over the translation 1e6d7dccae429062… (all of the seat's roots in one cut). By AI agents, Wed Nov 11 2026. No macro, syntax, notation, axiom, sorry.
-/
import Derived.Test.YthjijjkoeoemgaaChecked
import GoSem.Claim
import GoSem.ClaimJoined
import GoSem.ClaimMapViews
import Derived.JoinedTies
import Derived.KernelRfl
namespace Go.Proofs.Ythjijjkoeoemgaa
/- THE CELL 'sum', in the pinned program and in every row, IS THE sha256 OF THE DUMP (.gsa) THAT YthjijjkoeoemgaaProg.lean LOADS. Nothing in Lean hashes anything: it is a label: what it is worth is what the hold of that sum in a sandbox is worth. -/
noncomputable def Try.pinned : Pinned := { name := "ythjijjkoeoemgaa", sum := "1e6d7dccae42906281306a02092728c0cdba510f58385859a50d074faa5f055c", checked := Try.checked }
namespace Rows
def none {H : Type} : Left H := { results := [], args := [] }

/-- 'marqueelaw15.ContentChecks': WHATEVER THE INPUT: true; the input reads as it did. -/
def contentChecksSpec : ChangeSpec := { name := "contentChecks", fn := fun _ => fun
  | [d1, d2] => { results := [.lit (.bool true)], args := [d1, d2] }
  | _ => none }
def contentChecksRow : OpenClaim := { program := "ythjijjkoeoemgaa", sum := "1e6d7dccae42906281306a02092728c0cdba510f58385859a50d074faa5f055c", func := "marquee/marqueelaw15.ContentChecks", spec := "contentChecks", inPlace := ["internal/bytealg.abigen_runtime_cmpstring"], unfollowed := true, recurses := true, apart := false }
def ContentChecksSaid : Prop := contentChecksRow.holds Try.pinned (OpenSpec.ofChange contentChecksSpec)

/-- ITS FALSE NEIGHBOUR: 'it returns false'. Refute it at one input. -/
def contentChecksWrong : ChangeSpec := { name := "contentChecks", fn := fun _ => fun
  | [d1, d2] => { results := [.lit (.bool false)], args := [d1, d2] }
  | _ => none }
def ContentChecksWrongFalsely : Prop := contentChecksRow.holds Try.pinned (OpenSpec.ofChange contentChecksWrong)

/-- 'marqueelaw15.ContentStill': WHATEVER THE INPUT: true; the input reads as it did. -/
def contentStillSpec : ChangeSpec := { name := "contentStill", fn := fun _ => fun
  | [d1, d2, d3] => { results := [.lit (.bool true)], args := [d1, d2, d3] }
  | _ => none }
def contentStillRow : OpenClaim := { program := "ythjijjkoeoemgaa", sum := "1e6d7dccae42906281306a02092728c0cdba510f58385859a50d074faa5f055c", func := "marquee/marqueelaw15.ContentStill", spec := "contentStill", inPlace := ["internal/bytealg.abigen_runtime_cmpstring"], unfollowed := true, recurses := true, apart := false }
def ContentStillSaid : Prop := contentStillRow.holds Try.pinned (OpenSpec.ofChange contentStillSpec)

/-- ITS FALSE NEIGHBOUR: 'it returns false'. Refute it at one input. -/
def contentStillWrong : ChangeSpec := { name := "contentStill", fn := fun _ => fun
  | [d1, d2, d3] => { results := [.lit (.bool false)], args := [d1, d2, d3] }
  | _ => none }
def ContentStillWrongFalsely : Prop := contentStillRow.holds Try.pinned (OpenSpec.ofChange contentStillWrong)

/-- 'marqueelaw15.ContentBounds': WHATEVER THE INPUT: true; the input reads as it did. -/
def contentBoundsSpec : ChangeSpec := { name := "contentBounds", fn := fun _ => fun
  | [d1, d2, d3] => { results := [.lit (.bool true)], args := [d1, d2, d3] }
  | _ => none }
def contentBoundsRow : OpenClaim := { program := "ythjijjkoeoemgaa", sum := "1e6d7dccae42906281306a02092728c0cdba510f58385859a50d074faa5f055c", func := "marquee/marqueelaw15.ContentBounds", spec := "contentBounds", inPlace := ["internal/bytealg.abigen_runtime_cmpstring"], unfollowed := true, recurses := true, apart := false }
def ContentBoundsSaid : Prop := contentBoundsRow.holds Try.pinned (OpenSpec.ofChange contentBoundsSpec)

/-- ITS FALSE NEIGHBOUR: 'it returns false'. Refute it at one input. -/
def contentBoundsWrong : ChangeSpec := { name := "contentBounds", fn := fun _ => fun
  | [d1, d2, d3] => { results := [.lit (.bool false)], args := [d1, d2, d3] }
  | _ => none }
def ContentBoundsWrongFalsely : Prop := contentBoundsRow.holds Try.pinned (OpenSpec.ofChange contentBoundsWrong)

/-- 'marqueelaw15.ContentDiffs': WHATEVER THE INPUT: true; the input reads as it did. -/
def contentDiffsSpec : ChangeSpec := { name := "contentDiffs", fn := fun _ => fun
  | [d1, d2, d3] => { results := [.lit (.bool true)], args := [d1, d2, d3] }
  | _ => none }
def contentDiffsRow : OpenClaim := { program := "ythjijjkoeoemgaa", sum := "1e6d7dccae42906281306a02092728c0cdba510f58385859a50d074faa5f055c", func := "marquee/marqueelaw15.ContentDiffs", spec := "contentDiffs", inPlace := ["internal/bytealg.abigen_runtime_cmpstring"], unfollowed := true, recurses := true, apart := false }
def ContentDiffsSaid : Prop := contentDiffsRow.holds Try.pinned (OpenSpec.ofChange contentDiffsSpec)

/-- ITS FALSE NEIGHBOUR: 'it returns false'. Refute it at one input. -/
def contentDiffsWrong : ChangeSpec := { name := "contentDiffs", fn := fun _ => fun
  | [d1, d2, d3] => { results := [.lit (.bool false)], args := [d1, d2, d3] }
  | _ => none }
def ContentDiffsWrongFalsely : Prop := contentDiffsRow.holds Try.pinned (OpenSpec.ofChange contentDiffsWrong)

/- THE SECOND FORM. 'bulk': how many values and letters a reading holds, each counted each time it is reached (what is shared counts as often as it is met; a slice's spare places count too). A statement '..UptoSaid' is the law's where the arguments, and the package variables that the reading takes, are together of bulk at most 1048576: NARROWER than '..Said'. Prove '..Said' where nothing that the law and all that it calls make is longer than what came in: it says more and counts as full. Else prove '..UptoSaid'. A law counts once. -/
mutual
def uptoBulk {H : Type} : DataW H → Nat
  | .lit (.string bytes) => bytes.length + 1
  | .lit _ => 1
  | .nil => 1
  | .ptr d => uptoBulk d + 1
  | .slice elems spare => uptoBulkAll elems + uptoBulkAll spare + 1
  | .agg parts => uptoBulkAll parts + 1
  | .iface _ d => uptoBulk d + 1
  | .map entries => uptoBulkEntries entries + 1
  | .held _ => 1
def uptoBulkAll {H : Type} : List (DataW H) → Nat
  | [] => 0
  | d :: r => uptoBulk d + uptoBulkAll r
def uptoBulkEntries {H : Type} : List (Lit × DataW H) → Nat
  | [] => 0
  | x :: r => uptoBulkEntry x + uptoBulkEntries r
def uptoBulkEntry {H : Type} : Lit × DataW H → Nat
  | (.string bytes, d) => bytes.length + uptoBulk d + 1
  | (_, d) => uptoBulk d + 1
 end
def uptoSmall : (H : Type) → List (DataW H) → Bool := fun _ ds => decide (uptoBulkAll ds ≤ 1048576)
def OpenSpec.upto (s : _root_.Go.ChangeSpec) : _root_.Go.OpenSpec := { _root_.Go.OpenSpec.ofChange s with cond := some uptoSmall }

/-- 'marqueelaw15.ContentChecks', WHERE WHAT IT READS IS OF BULK AT MOST 1048576: true; the input reads as it did. -/
def contentChecksUptoRow : OpenClaim := { program := "ythjijjkoeoemgaa", sum := "1e6d7dccae42906281306a02092728c0cdba510f58385859a50d074faa5f055c", func := "marquee/marqueelaw15.ContentChecks", spec := "contentChecks", inPlace := ["internal/bytealg.abigen_runtime_cmpstring"], unfollowed := true, recurses := true, apart := false, narrowed := true }
def ContentChecksUptoSaid : Prop := contentChecksUptoRow.holds Try.pinned (OpenSpec.upto contentChecksSpec)

/-- 'marqueelaw15.ContentStill', WHERE WHAT IT READS IS OF BULK AT MOST 1048576: true; the input reads as it did. -/
def contentStillUptoRow : OpenClaim := { program := "ythjijjkoeoemgaa", sum := "1e6d7dccae42906281306a02092728c0cdba510f58385859a50d074faa5f055c", func := "marquee/marqueelaw15.ContentStill", spec := "contentStill", inPlace := ["internal/bytealg.abigen_runtime_cmpstring"], unfollowed := true, recurses := true, apart := false, narrowed := true }
def ContentStillUptoSaid : Prop := contentStillUptoRow.holds Try.pinned (OpenSpec.upto contentStillSpec)

/-- 'marqueelaw15.ContentBounds', WHERE WHAT IT READS IS OF BULK AT MOST 1048576: true; the input reads as it did. -/
def contentBoundsUptoRow : OpenClaim := { program := "ythjijjkoeoemgaa", sum := "1e6d7dccae42906281306a02092728c0cdba510f58385859a50d074faa5f055c", func := "marquee/marqueelaw15.ContentBounds", spec := "contentBounds", inPlace := ["internal/bytealg.abigen_runtime_cmpstring"], unfollowed := true, recurses := true, apart := false, narrowed := true }
def ContentBoundsUptoSaid : Prop := contentBoundsUptoRow.holds Try.pinned (OpenSpec.upto contentBoundsSpec)

/-- 'marqueelaw15.ContentDiffs', WHERE WHAT IT READS IS OF BULK AT MOST 1048576: true; the input reads as it did. -/
def contentDiffsUptoRow : OpenClaim := { program := "ythjijjkoeoemgaa", sum := "1e6d7dccae42906281306a02092728c0cdba510f58385859a50d074faa5f055c", func := "marquee/marqueelaw15.ContentDiffs", spec := "contentDiffs", inPlace := ["internal/bytealg.abigen_runtime_cmpstring"], unfollowed := true, recurses := true, apart := false, narrowed := true }
def ContentDiffsUptoSaid : Prop := contentDiffsUptoRow.holds Try.pinned (OpenSpec.upto contentDiffsSpec)

end Rows
end Go.Proofs.Ythjijjkoeoemgaa
