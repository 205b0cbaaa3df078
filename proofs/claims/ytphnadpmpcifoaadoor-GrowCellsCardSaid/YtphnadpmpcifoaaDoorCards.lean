/-
  DERIVED. GIVEN WITH THE SEED: THE CARDS: each row of YtphnadpmpcifoaaDoorRows.lean that lists a variable, with what it lists TIED to the program's text (the seventh form; the later family's looks); each row that meets fmt, with fmt's text TOLD by the authors' own Lean function (tested against real Go, not proved from fmt's source: count such statements apart). THE CARD IS WHAT COUNTS. Prove the row's statement (the work); the ties are given (YtphnadpmpcifoaaDoorTie.lean); close each card by the builder's one call (the guide's Derived/Test/ToyasCard.lean, 'card_holds'). Laid BY PROGRAM, IN A SANDBOX (cutbox-door.mjs). By AI agents, Wed Nov 11 2026. No macro, syntax, notation, axiom, sorry.
-/
import Derived.Test.YtphnadpmpcifoaaDoorRows
import GoSem.ClaimSeven
namespace Go.Proofs.YtphnadpmpcifoaaDoor
namespace Rows

/-- THE TIED CARD OF 'quiltlaw12.GrowErrors'. -/
def growErrorsCard : Claim7 := { stood := { row := growErrorsRow, standIns := [], harness := (true, "d95f7b977c0a207e38c62078eb0719dc4707dd34eae90be41a715110abd8c66d"), looks := true }, kinds := [], alts := [], laidByText := true, laidKinds := [.handle], laidTests := true, laidLooks := .later }
def GrowErrorsCardSaid : Prop := Claim7.holds Tryd.pinned (.plain (OpenSpec.ofChange growErrorsSpec)) growErrorsCard

/-- THE TIED CARD OF 'quiltlaw12.GrowCells'. -/
def growCellsCard : Claim7 := { stood := { row := growCellsRow, standIns := [], harness := (true, "d95f7b977c0a207e38c62078eb0719dc4707dd34eae90be41a715110abd8c66d"), looks := true }, kinds := [], alts := [], laidByText := true, laidKinds := [.handle], laidTests := true, laidLooks := .later }
def GrowCellsCardSaid : Prop := Claim7.holds Tryd.pinned (.plain (OpenSpec.ofChange growCellsSpec)) growCellsCard

/-- THE SECOND FORM's CARD OF 'quiltlaw12.GrowErrors'. -/
def growErrorsUptoCard : Claim7 := { stood := { row := growErrorsUptoRow, standIns := [], harness := (true, "d95f7b977c0a207e38c62078eb0719dc4707dd34eae90be41a715110abd8c66d"), looks := true }, kinds := [], alts := [], laidByText := true, laidKinds := [.handle], laidTests := true, laidLooks := .later }
def GrowErrorsUptoCardSaid : Prop := Claim7.holds Tryd.pinned (.plain (OpenSpec.upto growErrorsSpec)) growErrorsUptoCard

/-- THE SECOND FORM's CARD OF 'quiltlaw12.GrowCells'. -/
def growCellsUptoCard : Claim7 := { stood := { row := growCellsUptoRow, standIns := [], harness := (true, "d95f7b977c0a207e38c62078eb0719dc4707dd34eae90be41a715110abd8c66d"), looks := true }, kinds := [], alts := [], laidByText := true, laidKinds := [.handle], laidTests := true, laidLooks := .later }
def GrowCellsUptoCardSaid : Prop := Claim7.holds Tryd.pinned (.plain (OpenSpec.upto growCellsSpec)) growCellsUptoCard
end Rows
end Go.Proofs.YtphnadpmpcifoaaDoor
