/-
  No cell of these rows narrows 'for every input' (looked for: loops, veiled, ifaces, maps, wideKeys, modest, calm, conditions, laid).
  DERIVED. THE GIVEN ROWS OF THIS SEAT. 6 by the template 'for every input the law returns true; each argument reads behind the call as it read before'; 0 by the template 'total and deterministic' (their statements: YtcgpkmjimncbmaaTotals.lean).
  GIVEN WITH THE SEED: the statements are not yours to turn. If you find one false, say at which input.
  Laid BY PROGRAM, IN A SANDBOX (cutbox-rows.mjs): the forced cells as the released guide's own fill.sh prints them over the translation 6c2aa1f5f8f1e82a… (all of the seat's roots in one cut). By AI agents, Wed Nov 11 2026. No macro, syntax, notation, axiom, sorry.
-/
import Derived.Test.YtcgpkmjimncbmaaChecked
import GoSem.Claim
import GoSem.ClaimJoined
import GoSem.ClaimMapViews
import Derived.JoinedTies
import Derived.KernelRfl
namespace Go.Proofs.Ytcgpkmjimncbmaa
/- THE CELL 'sum', in the pinned program and in every row, IS THE sha256 OF THE DUMP (.gsa) THAT YtcgpkmjimncbmaaProg.lean LOADS. Nothing in Lean hashes anything: it is a label: what it is worth is what the hold of that sum in a sandbox is worth. -/
noncomputable def Try.pinned : Pinned := { name := "ytcgpkmjimncbmaa", sum := "6c2aa1f5f8f1e82a931a7fb49467d5f5ed7c81d8c5295d827cb96671e88dc3bc", checked := Try.checked }
namespace Rows
def none {H : Type} : Left H := { results := [], args := [] }

/-- 'marqueelaw19.JoinPairs': WHATEVER THE INPUT: true; the input reads as it did. -/
def joinPairsSpec : ChangeSpec := { name := "joinPairs", fn := fun _ => fun
  | [d1, d2] => { results := [.lit (.bool true)], args := [d1, d2] }
  | _ => none }
def joinPairsRow : OpenClaim := { program := "ytcgpkmjimncbmaa", sum := "6c2aa1f5f8f1e82a931a7fb49467d5f5ed7c81d8c5295d827cb96671e88dc3bc", func := "marquee/marqueelaw19.JoinPairs", spec := "joinPairs", unfollowed := true, recurses := true, apart := false }
def JoinPairsSaid : Prop := joinPairsRow.holds Try.pinned (OpenSpec.ofChange joinPairsSpec)

/-- ITS FALSE NEIGHBOUR: 'it returns false'. Refute it at one input. -/
def joinPairsWrong : ChangeSpec := { name := "joinPairs", fn := fun _ => fun
  | [d1, d2] => { results := [.lit (.bool false)], args := [d1, d2] }
  | _ => none }
def JoinPairsWrongFalsely : Prop := joinPairsRow.holds Try.pinned (OpenSpec.ofChange joinPairsWrong)

/-- 'marqueelaw16.ViewsNobody': WHATEVER THE INPUT: true; the input reads as it did. -/
def viewsNobodySpec : ChangeSpec := { name := "viewsNobody", fn := fun _ => fun
  | [d] => { results := [.lit (.bool true)], args := [d] }
  | _ => none }
def viewsNobodyRow : OpenClaim := { program := "ytcgpkmjimncbmaa", sum := "6c2aa1f5f8f1e82a931a7fb49467d5f5ed7c81d8c5295d827cb96671e88dc3bc", func := "marquee/marqueelaw16.ViewsNobody", spec := "viewsNobody", unfollowed := true, recurses := true, apart := false }
def ViewsNobodySaid : Prop := viewsNobodyRow.holds Try.pinned (OpenSpec.ofChange viewsNobodySpec)

/-- ITS FALSE NEIGHBOUR: 'it returns false'. Refute it at one input. -/
def viewsNobodyWrong : ChangeSpec := { name := "viewsNobody", fn := fun _ => fun
  | [d] => { results := [.lit (.bool false)], args := [d] }
  | _ => none }
def ViewsNobodyWrongFalsely : Prop := viewsNobodyRow.holds Try.pinned (OpenSpec.ofChange viewsNobodyWrong)

/-- 'marqueelaw16.ViewsDeltas': WHATEVER THE INPUT: true; the input reads as it did. -/
def viewsDeltasSpec : ChangeSpec := { name := "viewsDeltas", fn := fun _ => fun
  | [d1, d2, d3] => { results := [.lit (.bool true)], args := [d1, d2, d3] }
  | _ => none }
def viewsDeltasRow : OpenClaim := { program := "ytcgpkmjimncbmaa", sum := "6c2aa1f5f8f1e82a931a7fb49467d5f5ed7c81d8c5295d827cb96671e88dc3bc", func := "marquee/marqueelaw16.ViewsDeltas", spec := "viewsDeltas", unfollowed := true, recurses := true, apart := false }
def ViewsDeltasSaid : Prop := viewsDeltasRow.holds Try.pinned (OpenSpec.ofChange viewsDeltasSpec)

/-- ITS FALSE NEIGHBOUR: 'it returns false'. Refute it at one input. -/
def viewsDeltasWrong : ChangeSpec := { name := "viewsDeltas", fn := fun _ => fun
  | [d1, d2, d3] => { results := [.lit (.bool false)], args := [d1, d2, d3] }
  | _ => none }
def ViewsDeltasWrongFalsely : Prop := viewsDeltasRow.holds Try.pinned (OpenSpec.ofChange viewsDeltasWrong)

/-- 'marqueelaw16.ViewsSplit': WHATEVER THE INPUT: true; the input reads as it did. -/
def viewsSplitSpec : ChangeSpec := { name := "viewsSplit", fn := fun _ => fun
  | [d1, d2, d3] => { results := [.lit (.bool true)], args := [d1, d2, d3] }
  | _ => none }
def viewsSplitRow : OpenClaim := { program := "ytcgpkmjimncbmaa", sum := "6c2aa1f5f8f1e82a931a7fb49467d5f5ed7c81d8c5295d827cb96671e88dc3bc", func := "marquee/marqueelaw16.ViewsSplit", spec := "viewsSplit", unfollowed := true, recurses := true, apart := false }
def ViewsSplitSaid : Prop := viewsSplitRow.holds Try.pinned (OpenSpec.ofChange viewsSplitSpec)

/-- ITS FALSE NEIGHBOUR: 'it returns false'. Refute it at one input. -/
def viewsSplitWrong : ChangeSpec := { name := "viewsSplit", fn := fun _ => fun
  | [d1, d2, d3] => { results := [.lit (.bool false)], args := [d1, d2, d3] }
  | _ => none }
def ViewsSplitWrongFalsely : Prop := viewsSplitRow.holds Try.pinned (OpenSpec.ofChange viewsSplitWrong)

/-- 'marqueelaw16.ViewsBound': WHATEVER THE INPUT: true; the input reads as it did. -/
def viewsBoundSpec : ChangeSpec := { name := "viewsBound", fn := fun _ => fun
  | [d1, d2, d3] => { results := [.lit (.bool true)], args := [d1, d2, d3] }
  | _ => none }
def viewsBoundRow : OpenClaim := { program := "ytcgpkmjimncbmaa", sum := "6c2aa1f5f8f1e82a931a7fb49467d5f5ed7c81d8c5295d827cb96671e88dc3bc", func := "marquee/marqueelaw16.ViewsBound", spec := "viewsBound", unfollowed := true, recurses := true, apart := false }
def ViewsBoundSaid : Prop := viewsBoundRow.holds Try.pinned (OpenSpec.ofChange viewsBoundSpec)

/-- ITS FALSE NEIGHBOUR: 'it returns false'. Refute it at one input. -/
def viewsBoundWrong : ChangeSpec := { name := "viewsBound", fn := fun _ => fun
  | [d1, d2, d3] => { results := [.lit (.bool false)], args := [d1, d2, d3] }
  | _ => none }
def ViewsBoundWrongFalsely : Prop := viewsBoundRow.holds Try.pinned (OpenSpec.ofChange viewsBoundWrong)

/-- 'marqueelaw19.JoinNone': WHATEVER THE INPUT: true; the input reads as it did. -/
def joinNoneSpec : ChangeSpec := { name := "joinNone", fn := fun _ => fun
  | [d1, d2, d3] => { results := [.lit (.bool true)], args := [d1, d2, d3] }
  | _ => none }
def joinNoneRow : OpenClaim := { program := "ytcgpkmjimncbmaa", sum := "6c2aa1f5f8f1e82a931a7fb49467d5f5ed7c81d8c5295d827cb96671e88dc3bc", func := "marquee/marqueelaw19.JoinNone", spec := "joinNone", unfollowed := true, recurses := true, apart := false }
def JoinNoneSaid : Prop := joinNoneRow.holds Try.pinned (OpenSpec.ofChange joinNoneSpec)

/-- ITS FALSE NEIGHBOUR: 'it returns false'. Refute it at one input. -/
def joinNoneWrong : ChangeSpec := { name := "joinNone", fn := fun _ => fun
  | [d1, d2, d3] => { results := [.lit (.bool false)], args := [d1, d2, d3] }
  | _ => none }
def JoinNoneWrongFalsely : Prop := joinNoneRow.holds Try.pinned (OpenSpec.ofChange joinNoneWrong)

/- THE SECOND FORM. 'bulk': how many values and letters a reading holds, each counted each time it is reached (what is shared counts as often as it is met; a slice's spare places count too). A statement '..UptoSaid' is the law's where the arguments, and the package variables that the reading takes, are together of bulk at most 1048576: NARROWER than '..Said'. Prove '..Said' where nothing that the law and all that it calls make is longer than what came in: it says more and counts as full. Else prove '..UptoSaid'. A law counts once. -/
mutual
def uptoBulk {H : Type} : DataW H → Nat
  | .lit (.string bytes) => bytes.length + 1
  | .lit _ => 1
  | .nil => 1
  | .ptr d => uptoBulk d + 1
  | .slice elems spare => uptoBulkAll elems + uptoBulkAll spare + 1
  | .agg parts => uptoBulkAll parts + 1
  | .iface _ d => uptoBulk d + 1
  | .map entries => uptoBulkEntries entries + 1
  | .held _ => 1
def uptoBulkAll {H : Type} : List (DataW H) → Nat
  | [] => 0
  | d :: r => uptoBulk d + uptoBulkAll r
def uptoBulkEntries {H : Type} : List (Lit × DataW H) → Nat
  | [] => 0
  | x :: r => uptoBulkEntry x + uptoBulkEntries r
def uptoBulkEntry {H : Type} : Lit × DataW H → Nat
  | (.string bytes, d) => bytes.length + uptoBulk d + 1
  | (_, d) => uptoBulk d + 1
 end
def uptoSmall : (H : Type) → List (DataW H) → Bool := fun _ ds => decide (uptoBulkAll ds ≤ 1048576)
def OpenSpec.upto (s : _root_.Go.ChangeSpec) : _root_.Go.OpenSpec := { _root_.Go.OpenSpec.ofChange s with cond := some uptoSmall }

/-- 'marqueelaw19.JoinPairs', WHERE WHAT IT READS IS OF BULK AT MOST 1048576: true; the input reads as it did. -/
def joinPairsUptoRow : OpenClaim := { program := "ytcgpkmjimncbmaa", sum := "6c2aa1f5f8f1e82a931a7fb49467d5f5ed7c81d8c5295d827cb96671e88dc3bc", func := "marquee/marqueelaw19.JoinPairs", spec := "joinPairs", unfollowed := true, recurses := true, apart := false, narrowed := true }
def JoinPairsUptoSaid : Prop := joinPairsUptoRow.holds Try.pinned (OpenSpec.upto joinPairsSpec)

/-- 'marqueelaw16.ViewsNobody', WHERE WHAT IT READS IS OF BULK AT MOST 1048576: true; the input reads as it did. -/
def viewsNobodyUptoRow : OpenClaim := { program := "ytcgpkmjimncbmaa", sum := "6c2aa1f5f8f1e82a931a7fb49467d5f5ed7c81d8c5295d827cb96671e88dc3bc", func := "marquee/marqueelaw16.ViewsNobody", spec := "viewsNobody", unfollowed := true, recurses := true, apart := false, narrowed := true }
def ViewsNobodyUptoSaid : Prop := viewsNobodyUptoRow.holds Try.pinned (OpenSpec.upto viewsNobodySpec)

/-- 'marqueelaw16.ViewsDeltas', WHERE WHAT IT READS IS OF BULK AT MOST 1048576: true; the input reads as it did. -/
def viewsDeltasUptoRow : OpenClaim := { program := "ytcgpkmjimncbmaa", sum := "6c2aa1f5f8f1e82a931a7fb49467d5f5ed7c81d8c5295d827cb96671e88dc3bc", func := "marquee/marqueelaw16.ViewsDeltas", spec := "viewsDeltas", unfollowed := true, recurses := true, apart := false, narrowed := true }
def ViewsDeltasUptoSaid : Prop := viewsDeltasUptoRow.holds Try.pinned (OpenSpec.upto viewsDeltasSpec)

/-- 'marqueelaw16.ViewsSplit', WHERE WHAT IT READS IS OF BULK AT MOST 1048576: true; the input reads as it did. -/
def viewsSplitUptoRow : OpenClaim := { program := "ytcgpkmjimncbmaa", sum := "6c2aa1f5f8f1e82a931a7fb49467d5f5ed7c81d8c5295d827cb96671e88dc3bc", func := "marquee/marqueelaw16.ViewsSplit", spec := "viewsSplit", unfollowed := true, recurses := true, apart := false, narrowed := true }
def ViewsSplitUptoSaid : Prop := viewsSplitUptoRow.holds Try.pinned (OpenSpec.upto viewsSplitSpec)

/-- 'marqueelaw16.ViewsBound', WHERE WHAT IT READS IS OF BULK AT MOST 1048576: true; the input reads as it did. -/
def viewsBoundUptoRow : OpenClaim := { program := "ytcgpkmjimncbmaa", sum := "6c2aa1f5f8f1e82a931a7fb49467d5f5ed7c81d8c5295d827cb96671e88dc3bc", func := "marquee/marqueelaw16.ViewsBound", spec := "viewsBound", unfollowed := true, recurses := true, apart := false, narrowed := true }
def ViewsBoundUptoSaid : Prop := viewsBoundUptoRow.holds Try.pinned (OpenSpec.upto viewsBoundSpec)

/-- 'marqueelaw19.JoinNone', WHERE WHAT IT READS IS OF BULK AT MOST 1048576: true; the input reads as it did. -/
def joinNoneUptoRow : OpenClaim := { program := "ytcgpkmjimncbmaa", sum := "6c2aa1f5f8f1e82a931a7fb49467d5f5ed7c81d8c5295d827cb96671e88dc3bc", func := "marquee/marqueelaw19.JoinNone", spec := "joinNone", unfollowed := true, recurses := true, apart := false, narrowed := true }
def JoinNoneUptoSaid : Prop := joinNoneUptoRow.holds Try.pinned (OpenSpec.upto joinNoneSpec)

end Rows
end Go.Proofs.Ytcgpkmjimncbmaa
