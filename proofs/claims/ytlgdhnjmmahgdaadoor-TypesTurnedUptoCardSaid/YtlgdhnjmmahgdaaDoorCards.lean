/-
  DERIVED. GIVEN WITH THE SEED: THE CARDS: each row of YtlgdhnjmmahgdaaDoorRows.lean that lists a variable, with what it lists TIED to the program's text (the seventh form; the later family's looks); each row that meets fmt, with fmt's text TOLD by the authors' own Lean function (tested against real Go, not proved from fmt's source: count such statements apart). THE CARD IS WHAT COUNTS. Prove the row's statement (the work); the ties are given (YtlgdhnjmmahgdaaDoorTie.lean); close each card by the builder's one call (the guide's Derived/Test/ToyasCard.lean, 'card_holds'). Laid BY PROGRAM, IN A SANDBOX (cutbox-door.mjs). By AI agents, Wed Nov 11 2026. No macro, syntax, notation, axiom, sorry.
-/
import Derived.Test.YtlgdhnjmmahgdaaDoorRows
import GoSem.ClaimSeven
namespace Go.Proofs.YtlgdhnjmmahgdaaDoor
namespace Rows

/-- THE TIED CARD OF 'marqueelaw11.TypesTurned'. -/
def typesTurnedCard : Claim7 := { stood := { row := typesTurnedRow, standIns := [], harness := (true, "e3c5686934bce71abad85a78480ef38f8eb6c9b6cc80f5089862d196536c8861"), looks := false }, kinds := [], alts := [], laidByText := true, laidKinds := [.data, .listed, .data, .pinned, .pinned], laidTests := true, laidLooks := .later }
def TypesTurnedCardSaid : Prop := Claim7.holds Tryd.pinned (.plain (OpenSpec.ofChange typesTurnedSpec)) typesTurnedCard

/-- THE TIED CARD OF 'marqueelaw11.TypesFields'. -/
def typesFieldsCard : Claim7 := { stood := { row := typesFieldsRow, standIns := [], harness := (true, "e3c5686934bce71abad85a78480ef38f8eb6c9b6cc80f5089862d196536c8861"), looks := false }, kinds := [], alts := [], laidByText := true, laidKinds := [.data, .listed, .data, .pinned, .pinned], laidTests := true, laidLooks := .later }
def TypesFieldsCardSaid : Prop := Claim7.holds Tryd.pinned (.plain (OpenSpec.ofChange typesFieldsSpec)) typesFieldsCard

/-- THE SECOND FORM's CARD OF 'marqueelaw11.TypesTurned'. -/
def typesTurnedUptoCard : Claim7 := { stood := { row := typesTurnedUptoRow, standIns := [], harness := (true, "e3c5686934bce71abad85a78480ef38f8eb6c9b6cc80f5089862d196536c8861"), looks := false }, kinds := [], alts := [], laidByText := true, laidKinds := [.data, .listed, .data, .pinned, .pinned], laidTests := true, laidLooks := .later }
def TypesTurnedUptoCardSaid : Prop := Claim7.holds Tryd.pinned (.plain (OpenSpec.upto typesTurnedSpec)) typesTurnedUptoCard

/-- THE SECOND FORM's CARD OF 'marqueelaw11.TypesFields'. -/
def typesFieldsUptoCard : Claim7 := { stood := { row := typesFieldsUptoRow, standIns := [], harness := (true, "e3c5686934bce71abad85a78480ef38f8eb6c9b6cc80f5089862d196536c8861"), looks := false }, kinds := [], alts := [], laidByText := true, laidKinds := [.data, .listed, .data, .pinned, .pinned], laidTests := true, laidLooks := .later }
def TypesFieldsUptoCardSaid : Prop := Claim7.holds Tryd.pinned (.plain (OpenSpec.upto typesFieldsSpec)) typesFieldsUptoCard
end Rows
end Go.Proofs.YtlgdhnjmmahgdaaDoor
