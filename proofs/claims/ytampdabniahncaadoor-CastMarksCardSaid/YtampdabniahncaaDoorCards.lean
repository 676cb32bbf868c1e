/-
  DERIVED. GIVEN WITH THE SEED: THE CARDS: each row of YtampdabniahncaaDoorRows.lean that lists a variable, with what it lists TIED to the program's text (the seventh form; the later family's looks); each row that meets fmt, with fmt's text TOLD by the authors' own Lean function (tested against real Go, not proved from fmt's source: count such statements apart). THE CARD IS WHAT COUNTS. Prove the row's statement (the work); the ties are given (YtampdabniahncaaDoorTie.lean); close each card by the builder's one call (the guide's Derived/Test/ToyasCard.lean, 'card_holds'). Laid BY PROGRAM, IN A SANDBOX (cutbox-door.mjs). By AI agents, Wed Nov 11 2026. No macro, syntax, notation, axiom, sorry.
-/
import Derived.Test.YtampdabniahncaaDoorRows
import GoSem.ClaimSeven
namespace Go.Proofs.YtampdabniahncaaDoor
namespace Rows

/-- THE TIED CARD OF 'wardmotelaw16.CastMarks'. -/
def castMarksCard : Claim7 := { stood := { row := castMarksRow, standIns := [], harness := (true, "495402b52c5cbcb16092215d0a39a4b6985fe1ff698480d8a141c1044772e56d"), looks := false }, kinds := [], alts := [], laidByText := true, laidKinds := [.data], laidTests := true, laidLooks := .later }
def CastMarksCardSaid : Prop := Claim7.holds Tryd.pinned (.plain (OpenSpec.ofChange castMarksSpec)) castMarksCard

/-- THE SECOND FORM's CARD OF 'wardmotelaw16.CastMarks'. -/
def castMarksUptoCard : Claim7 := { stood := { row := castMarksUptoRow, standIns := [], harness := (true, "495402b52c5cbcb16092215d0a39a4b6985fe1ff698480d8a141c1044772e56d"), looks := false }, kinds := [], alts := [], laidByText := true, laidKinds := [.data], laidTests := true, laidLooks := .later }
def CastMarksUptoCardSaid : Prop := Claim7.holds Tryd.pinned (.plain (OpenSpec.upto castMarksSpec)) castMarksUptoCard
end Rows
end Go.Proofs.YtampdabniahncaaDoor
