/-
  No cell of these rows narrows 'for every input' (looked for: loops, veiled, ifaces, maps, wideKeys, modest, calm, conditions, laid).
  DERIVED. THE GIVEN ROWS OF THIS SEAT. 6 by the template 'for every input the law returns true; each argument reads behind the call as it read before'; 0 by the template 'total and deterministic' (their statements: YtdgffilnefnjjaaTotals.lean).
  GIVEN WITH THE SEED: the statements are not yours to turn. If you find one false, say at which input.
  Laid BY PROGRAM, IN A SANDBOX (cutbox-rows.mjs): the forced cells as the released guide's own fill.sh prints them over the translation 3ae98c63bbd96b5e… (all of the seat's roots in one cut). By AI agents, Wed Nov 11 2026. No macro, syntax, notation, axiom, sorry.
-/
import Derived.Test.YtdgffilnefnjjaaChecked
import GoSem.Claim
import GoSem.ClaimJoined
import GoSem.ClaimMapViews
import Derived.JoinedTies
import Derived.KernelRfl
namespace Go.Proofs.Ytdgffilnefnjjaa
/- THE CELL 'sum', in the pinned program and in every row, IS THE sha256 OF THE DUMP (.gsa) THAT YtdgffilnefnjjaaProg.lean LOADS. Nothing in Lean hashes anything: it is a label: what it is worth is what the hold of that sum in a sandbox is worth. -/
noncomputable def Try.pinned : Pinned := { name := "ytdgffilnefnjjaa", sum := "3ae98c63bbd96b5ec98e26e76b548d9de2f55ffc67e004c0853f57a571351db5", checked := Try.checked }
namespace Rows
def none {H : Type} : Left H := { results := [], args := [] }

/-- 'marqueelaw17.AggsTurned': WHATEVER THE INPUT: true; the input reads as it did. -/
def aggsTurnedSpec : ChangeSpec := { name := "aggsTurned", fn := fun _ => fun
  | [d1, d2] => { results := [.lit (.bool true)], args := [d1, d2] }
  | _ => none }
def aggsTurnedRow : OpenClaim := { program := "ytdgffilnefnjjaa", sum := "3ae98c63bbd96b5ec98e26e76b548d9de2f55ffc67e004c0853f57a571351db5", func := "marquee/marqueelaw17.AggsTurned", spec := "aggsTurned", inPlace := ["internal/bytealg.abigen_runtime_cmpstring", "slices.overlaps[marquee/aggs.kept]"], unfollowed := true, recurses := true, apart := false }
def AggsTurnedSaid : Prop := aggsTurnedRow.holds Try.pinned (OpenSpec.ofChange aggsTurnedSpec)

/-- ITS FALSE NEIGHBOUR: 'it returns false'. Refute it at one input. -/
def aggsTurnedWrong : ChangeSpec := { name := "aggsTurned", fn := fun _ => fun
  | [d1, d2] => { results := [.lit (.bool false)], args := [d1, d2] }
  | _ => none }
def AggsTurnedWrongFalsely : Prop := aggsTurnedRow.holds Try.pinned (OpenSpec.ofChange aggsTurnedWrong)

/-- 'marqueelaw17.AggsBounds': WHATEVER THE INPUT: true; the input reads as it did. -/
def aggsBoundsSpec : ChangeSpec := { name := "aggsBounds", fn := fun _ => fun
  | [d] => { results := [.lit (.bool true)], args := [d] }
  | _ => none }
def aggsBoundsRow : OpenClaim := { program := "ytdgffilnefnjjaa", sum := "3ae98c63bbd96b5ec98e26e76b548d9de2f55ffc67e004c0853f57a571351db5", func := "marquee/marqueelaw17.AggsBounds", spec := "aggsBounds", inPlace := ["internal/bytealg.abigen_runtime_cmpstring", "slices.overlaps[marquee/aggs.kept]"], unfollowed := true, recurses := true, apart := false }
def AggsBoundsSaid : Prop := aggsBoundsRow.holds Try.pinned (OpenSpec.ofChange aggsBoundsSpec)

/-- ITS FALSE NEIGHBOUR: 'it returns false'. Refute it at one input. -/
def aggsBoundsWrong : ChangeSpec := { name := "aggsBounds", fn := fun _ => fun
  | [d] => { results := [.lit (.bool false)], args := [d] }
  | _ => none }
def AggsBoundsWrongFalsely : Prop := aggsBoundsRow.holds Try.pinned (OpenSpec.ofChange aggsBoundsWrong)

/-- 'marqueelaw17.AggsBack': WHATEVER THE INPUT: true; the input reads as it did. -/
def aggsBackSpec : ChangeSpec := { name := "aggsBack", fn := fun _ => fun
  | [d] => { results := [.lit (.bool true)], args := [d] }
  | _ => none }
def aggsBackRow : OpenClaim := { program := "ytdgffilnefnjjaa", sum := "3ae98c63bbd96b5ec98e26e76b548d9de2f55ffc67e004c0853f57a571351db5", func := "marquee/marqueelaw17.AggsBack", spec := "aggsBack", inPlace := ["slices.overlaps[marquee/aggs.kept]", "internal/bytealg.abigen_runtime_cmpstring"], unfollowed := true, recurses := true, apart := false }
def AggsBackSaid : Prop := aggsBackRow.holds Try.pinned (OpenSpec.ofChange aggsBackSpec)

/-- ITS FALSE NEIGHBOUR: 'it returns false'. Refute it at one input. -/
def aggsBackWrong : ChangeSpec := { name := "aggsBack", fn := fun _ => fun
  | [d] => { results := [.lit (.bool false)], args := [d] }
  | _ => none }
def AggsBackWrongFalsely : Prop := aggsBackRow.holds Try.pinned (OpenSpec.ofChange aggsBackWrong)

/-- 'marqueelaw14.TimersPlays': WHATEVER THE INPUT: true; the input reads as it did. -/
def timersPlaysSpec : ChangeSpec := { name := "timersPlays", fn := fun _ => fun
  | [d] => { results := [.lit (.bool true)], args := [d] }
  | _ => none }
def timersPlaysRow : OpenClaim := { program := "ytdgffilnefnjjaa", sum := "3ae98c63bbd96b5ec98e26e76b548d9de2f55ffc67e004c0853f57a571351db5", func := "marquee/marqueelaw14.TimersPlays", spec := "timersPlays", unfollowed := true, recurses := true, apart := false }
def TimersPlaysSaid : Prop := timersPlaysRow.holds Try.pinned (OpenSpec.ofChange timersPlaysSpec)

/-- ITS FALSE NEIGHBOUR: 'it returns false'. Refute it at one input. -/
def timersPlaysWrong : ChangeSpec := { name := "timersPlays", fn := fun _ => fun
  | [d] => { results := [.lit (.bool false)], args := [d] }
  | _ => none }
def TimersPlaysWrongFalsely : Prop := timersPlaysRow.holds Try.pinned (OpenSpec.ofChange timersPlaysWrong)

/-- 'marqueelaw14.TimersNobody': WHATEVER THE INPUT: true; the input reads as it did. -/
def timersNobodySpec : ChangeSpec := { name := "timersNobody", fn := fun _ => fun
  | [d1, d2] => { results := [.lit (.bool true)], args := [d1, d2] }
  | _ => none }
def timersNobodyRow : OpenClaim := { program := "ytdgffilnefnjjaa", sum := "3ae98c63bbd96b5ec98e26e76b548d9de2f55ffc67e004c0853f57a571351db5", func := "marquee/marqueelaw14.TimersNobody", spec := "timersNobody", unfollowed := true, recurses := true, apart := false }
def TimersNobodySaid : Prop := timersNobodyRow.holds Try.pinned (OpenSpec.ofChange timersNobodySpec)

/-- ITS FALSE NEIGHBOUR: 'it returns false'. Refute it at one input. -/
def timersNobodyWrong : ChangeSpec := { name := "timersNobody", fn := fun _ => fun
  | [d1, d2] => { results := [.lit (.bool false)], args := [d1, d2] }
  | _ => none }
def TimersNobodyWrongFalsely : Prop := timersNobodyRow.holds Try.pinned (OpenSpec.ofChange timersNobodyWrong)

/-- 'marqueelaw14.TimersSplit': WHATEVER THE INPUT: true; the input reads as it did. -/
def timersSplitSpec : ChangeSpec := { name := "timersSplit", fn := fun _ => fun
  | [d1, d2, d3] => { results := [.lit (.bool true)], args := [d1, d2, d3] }
  | _ => none }
def timersSplitRow : OpenClaim := { program := "ytdgffilnefnjjaa", sum := "3ae98c63bbd96b5ec98e26e76b548d9de2f55ffc67e004c0853f57a571351db5", func := "marquee/marqueelaw14.TimersSplit", spec := "timersSplit", unfollowed := true, recurses := true, apart := false }
def TimersSplitSaid : Prop := timersSplitRow.holds Try.pinned (OpenSpec.ofChange timersSplitSpec)

/-- ITS FALSE NEIGHBOUR: 'it returns false'. Refute it at one input. -/
def timersSplitWrong : ChangeSpec := { name := "timersSplit", fn := fun _ => fun
  | [d1, d2, d3] => { results := [.lit (.bool false)], args := [d1, d2, d3] }
  | _ => none }
def TimersSplitWrongFalsely : Prop := timersSplitRow.holds Try.pinned (OpenSpec.ofChange timersSplitWrong)

/- THE SECOND FORM. 'bulk': how many values and letters a reading holds, each counted each time it is reached (what is shared counts as often as it is met; a slice's spare places count too). A statement '..UptoSaid' is the law's where the arguments, and the package variables that the reading takes, are together of bulk at most 1048576: NARROWER than '..Said'. Prove '..Said' where nothing that the law and all that it calls make is longer than what came in: it says more and counts as full. Else prove '..UptoSaid'. A law counts once. -/
mutual
def uptoBulk {H : Type} : DataW H → Nat
  | .lit (.string bytes) => bytes.length + 1
  | .lit _ => 1
  | .nil => 1
  | .ptr d => uptoBulk d + 1
  | .slice elems spare => uptoBulkAll elems + uptoBulkAll spare + 1
  | .agg parts => uptoBulkAll parts + 1
  | .iface _ d => uptoBulk d + 1
  | .map entries => uptoBulkEntries entries + 1
  | .held _ => 1
def uptoBulkAll {H : Type} : List (DataW H) → Nat
  | [] => 0
  | d :: r => uptoBulk d + uptoBulkAll r
def uptoBulkEntries {H : Type} : List (Lit × DataW H) → Nat
  | [] => 0
  | x :: r => uptoBulkEntry x + uptoBulkEntries r
def uptoBulkEntry {H : Type} : Lit × DataW H → Nat
  | (.string bytes, d) => bytes.length + uptoBulk d + 1
  | (_, d) => uptoBulk d + 1
 end
def uptoSmall : (H : Type) → List (DataW H) → Bool := fun _ ds => decide (uptoBulkAll ds ≤ 1048576)
def OpenSpec.upto (s : _root_.Go.ChangeSpec) : _root_.Go.OpenSpec := { _root_.Go.OpenSpec.ofChange s with cond := some uptoSmall }

/-- 'marqueelaw17.AggsTurned', WHERE WHAT IT READS IS OF BULK AT MOST 1048576: true; the input reads as it did. -/
def aggsTurnedUptoRow : OpenClaim := { program := "ytdgffilnefnjjaa", sum := "3ae98c63bbd96b5ec98e26e76b548d9de2f55ffc67e004c0853f57a571351db5", func := "marquee/marqueelaw17.AggsTurned", spec := "aggsTurned", inPlace := ["internal/bytealg.abigen_runtime_cmpstring", "slices.overlaps[marquee/aggs.kept]"], unfollowed := true, recurses := true, apart := false, narrowed := true }
def AggsTurnedUptoSaid : Prop := aggsTurnedUptoRow.holds Try.pinned (OpenSpec.upto aggsTurnedSpec)

/-- 'marqueelaw17.AggsBounds', WHERE WHAT IT READS IS OF BULK AT MOST 1048576: true; the input reads as it did. -/
def aggsBoundsUptoRow : OpenClaim := { program := "ytdgffilnefnjjaa", sum := "3ae98c63bbd96b5ec98e26e76b548d9de2f55ffc67e004c0853f57a571351db5", func := "marquee/marqueelaw17.AggsBounds", spec := "aggsBounds", inPlace := ["internal/bytealg.abigen_runtime_cmpstring", "slices.overlaps[marquee/aggs.kept]"], unfollowed := true, recurses := true, apart := false, narrowed := true }
def AggsBoundsUptoSaid : Prop := aggsBoundsUptoRow.holds Try.pinned (OpenSpec.upto aggsBoundsSpec)

/-- 'marqueelaw17.AggsBack', WHERE WHAT IT READS IS OF BULK AT MOST 1048576: true; the input reads as it did. -/
def aggsBackUptoRow : OpenClaim := { program := "ytdgffilnefnjjaa", sum := "3ae98c63bbd96b5ec98e26e76b548d9de2f55ffc67e004c0853f57a571351db5", func := "marquee/marqueelaw17.AggsBack", spec := "aggsBack", inPlace := ["slices.overlaps[marquee/aggs.kept]", "internal/bytealg.abigen_runtime_cmpstring"], unfollowed := true, recurses := true, apart := false, narrowed := true }
def AggsBackUptoSaid : Prop := aggsBackUptoRow.holds Try.pinned (OpenSpec.upto aggsBackSpec)

/-- 'marqueelaw14.TimersPlays', WHERE WHAT IT READS IS OF BULK AT MOST 1048576: true; the input reads as it did. -/
def timersPlaysUptoRow : OpenClaim := { program := "ytdgffilnefnjjaa", sum := "3ae98c63bbd96b5ec98e26e76b548d9de2f55ffc67e004c0853f57a571351db5", func := "marquee/marqueelaw14.TimersPlays", spec := "timersPlays", unfollowed := true, recurses := true, apart := false, narrowed := true }
def TimersPlaysUptoSaid : Prop := timersPlaysUptoRow.holds Try.pinned (OpenSpec.upto timersPlaysSpec)

/-- 'marqueelaw14.TimersNobody', WHERE WHAT IT READS IS OF BULK AT MOST 1048576: true; the input reads as it did. -/
def timersNobodyUptoRow : OpenClaim := { program := "ytdgffilnefnjjaa", sum := "3ae98c63bbd96b5ec98e26e76b548d9de2f55ffc67e004c0853f57a571351db5", func := "marquee/marqueelaw14.TimersNobody", spec := "timersNobody", unfollowed := true, recurses := true, apart := false, narrowed := true }
def TimersNobodyUptoSaid : Prop := timersNobodyUptoRow.holds Try.pinned (OpenSpec.upto timersNobodySpec)

/-- 'marqueelaw14.TimersSplit', WHERE WHAT IT READS IS OF BULK AT MOST 1048576: true; the input reads as it did. -/
def timersSplitUptoRow : OpenClaim := { program := "ytdgffilnefnjjaa", sum := "3ae98c63bbd96b5ec98e26e76b548d9de2f55ffc67e004c0853f57a571351db5", func := "marquee/marqueelaw14.TimersSplit", spec := "timersSplit", unfollowed := true, recurses := true, apart := false, narrowed := true }
def TimersSplitUptoSaid : Prop := timersSplitUptoRow.holds Try.pinned (OpenSpec.upto timersSplitSpec)

end Rows
end Go.Proofs.Ytdgffilnefnjjaa
