/-
  DERIVED. GIVEN WITH THE SEED: THE CARDS: each row of YtdpfgdmlmkpmbaaGreatDoorRows.lean that lists a variable, with what it lists TIED to the program's text (the seventh form; the later family's looks); each row that meets fmt, with fmt's text TOLD by the authors' own Lean function (tested against real Go, not proved from fmt's source: count such statements apart). THE CARD IS WHAT COUNTS. Prove the row's statement (the work); the ties are given (YtdpfgdmlmkpmbaaGreatDoorTie.lean); close each card by the builder's one call (the guide's Derived/Test/ToyasCard.lean, 'card_holds'). Laid BY PROGRAM, IN A SANDBOX (cutbox-door.mjs). By AI agents, Wed Nov 11 2026. No macro, syntax, notation, axiom, sorry.
-/
import Derived.Test.YtdpfgdmlmkpmbaaGreatDoorRows
import GoSem.ClaimSeven
namespace Go.Proofs.YtdpfgdmlmkpmbaaGreatDoor
namespace Rows

/-- THE TIED CARD OF 'marqueelaw12.CodeSources'. -/
def codeSourcesCard : Claim7 := { stood := { row := codeSourcesRow, standIns := [], harness := (true, "01f858ede51d61127890b22e320fa7ff033143e9da6973bd063b340465b5c9e5"), looks := false }, kinds := [], alts := [], laidByText := true, laidKinds := [.data, .listed, .data, .pinned, .pinned], laidTests := true, laidLooks := .later }
def CodeSourcesCardSaid : Prop := Claim7.holds Tryz.pinned (.plain (OpenSpec.ofChange codeSourcesSpec)) codeSourcesCard

/-- THE TIED CARD OF 'marqueelaw12.CodeChecks'. -/
def codeChecksCard : Claim7 := { stood := { row := codeChecksRow, standIns := [], harness := (true, "01f858ede51d61127890b22e320fa7ff033143e9da6973bd063b340465b5c9e5"), looks := false }, kinds := [], alts := [], laidByText := true, laidKinds := [.data, .listed, .data, .pinned, .pinned], laidTests := true, laidLooks := .later }
def CodeChecksCardSaid : Prop := Claim7.holds Tryz.pinned (.plain (OpenSpec.ofChange codeChecksSpec)) codeChecksCard

/-- THE TIED CARD OF 'marqueelaw12.CodeFits'. -/
def codeFitsCard : Claim7 := { stood := { row := codeFitsRow, standIns := [], harness := (true, "01f858ede51d61127890b22e320fa7ff033143e9da6973bd063b340465b5c9e5"), looks := false }, kinds := [], alts := [], laidByText := true, laidKinds := [.data, .listed, .data, .pinned, .pinned], laidTests := true, laidLooks := .later }
def CodeFitsCardSaid : Prop := Claim7.holds Tryz.pinned (.plain (OpenSpec.ofChange codeFitsSpec)) codeFitsCard

/-- THE TIED CARD OF 'marqueelaw12.CodeLong'. -/
def codeLongCard : Claim7 := { stood := { row := codeLongRow, standIns := [], harness := (true, "01f858ede51d61127890b22e320fa7ff033143e9da6973bd063b340465b5c9e5"), looks := false }, kinds := [], alts := [], laidByText := true, laidKinds := [.data, .listed, .data, .pinned, .pinned], laidTests := true, laidLooks := .later }
def CodeLongCardSaid : Prop := Claim7.holds Tryz.pinned (.plain (OpenSpec.ofChange codeLongSpec)) codeLongCard

/-- THE SECOND FORM's CARD OF 'marqueelaw12.CodeSources'. -/
def codeSourcesUptoCard : Claim7 := { stood := { row := codeSourcesUptoRow, standIns := [], harness := (true, "01f858ede51d61127890b22e320fa7ff033143e9da6973bd063b340465b5c9e5"), looks := false }, kinds := [], alts := [], laidByText := true, laidKinds := [.data, .listed, .data, .pinned, .pinned], laidTests := true, laidLooks := .later }
def CodeSourcesUptoCardSaid : Prop := Claim7.holds Tryz.pinned (.plain (OpenSpec.upto codeSourcesSpec)) codeSourcesUptoCard

/-- THE SECOND FORM's CARD OF 'marqueelaw12.CodeChecks'. -/
def codeChecksUptoCard : Claim7 := { stood := { row := codeChecksUptoRow, standIns := [], harness := (true, "01f858ede51d61127890b22e320fa7ff033143e9da6973bd063b340465b5c9e5"), looks := false }, kinds := [], alts := [], laidByText := true, laidKinds := [.data, .listed, .data, .pinned, .pinned], laidTests := true, laidLooks := .later }
def CodeChecksUptoCardSaid : Prop := Claim7.holds Tryz.pinned (.plain (OpenSpec.upto codeChecksSpec)) codeChecksUptoCard

/-- THE SECOND FORM's CARD OF 'marqueelaw12.CodeFits'. -/
def codeFitsUptoCard : Claim7 := { stood := { row := codeFitsUptoRow, standIns := [], harness := (true, "01f858ede51d61127890b22e320fa7ff033143e9da6973bd063b340465b5c9e5"), looks := false }, kinds := [], alts := [], laidByText := true, laidKinds := [.data, .listed, .data, .pinned, .pinned], laidTests := true, laidLooks := .later }
def CodeFitsUptoCardSaid : Prop := Claim7.holds Tryz.pinned (.plain (OpenSpec.upto codeFitsSpec)) codeFitsUptoCard

/-- THE SECOND FORM's CARD OF 'marqueelaw12.CodeLong'. -/
def codeLongUptoCard : Claim7 := { stood := { row := codeLongUptoRow, standIns := [], harness := (true, "01f858ede51d61127890b22e320fa7ff033143e9da6973bd063b340465b5c9e5"), looks := false }, kinds := [], alts := [], laidByText := true, laidKinds := [.data, .listed, .data, .pinned, .pinned], laidTests := true, laidLooks := .later }
def CodeLongUptoCardSaid : Prop := Claim7.holds Tryz.pinned (.plain (OpenSpec.upto codeLongSpec)) codeLongUptoCard
end Rows
end Go.Proofs.YtdpfgdmlmkpmbaaGreatDoor
