/-
  DERIVED. GIVEN WITH THE SEED: THE CARDS: each row of YtmlfheagbfaoaaaDoorRows.lean that lists a variable, with what it lists TIED to the program's text (the seventh form; the later family's looks); each row that meets fmt, with fmt's text TOLD by the authors' own Lean function (tested against real Go, not proved from fmt's source: count such statements apart). THE CARD IS WHAT COUNTS. Prove the row's statement (the work); the ties are given (YtmlfheagbfaoaaaDoorTie.lean); close each card by the builder's one call (the guide's Derived/Test/ToyasCard.lean, 'card_holds'). Laid BY PROGRAM, IN A SANDBOX (cutbox-door.mjs). By AI agents, Wed Nov 11 2026. No macro, syntax, notation, axiom, sorry.
-/
import Derived.Test.YtmlfheagbfaoaaaDoorRows
import GoSem.ClaimSeven
namespace Go.Proofs.YtmlfheagbfaoaaaDoor
namespace Rows

/-- THE TIED CARD OF 'wardmotelaw11.LedgerGrows'. -/
def ledgerGrowsCard : Claim7 := { stood := { row := ledgerGrowsRow, standIns := [], harness := (true, "7382652cd0680a1513995f35e27445143478e2e9a2581787e75fd85f35c20ec7"), looks := false }, kinds := [], alts := [], laidByText := true, laidKinds := [.data], laidTests := true, laidLooks := .later }
def LedgerGrowsCardSaid : Prop := Claim7.holds Tryd.pinned (.plain (OpenSpec.ofChange ledgerGrowsSpec)) ledgerGrowsCard

/-- THE TIED CARD OF 'wardmotelaw11.LedgerReads'. -/
def ledgerReadsCard : Claim7 := { stood := { row := ledgerReadsRow, standIns := [], harness := (true, "7382652cd0680a1513995f35e27445143478e2e9a2581787e75fd85f35c20ec7"), looks := false }, kinds := [], alts := [], laidByText := true, laidKinds := [.data], laidTests := true, laidLooks := .later }
def LedgerReadsCardSaid : Prop := Claim7.holds Tryd.pinned (.plain (OpenSpec.ofChange ledgerReadsSpec)) ledgerReadsCard

/-- THE TIED CARD OF 'wardmotelaw11.LedgerNil'. -/
def ledgerNilCard : Claim7 := { stood := { row := ledgerNilRow, standIns := [], harness := (true, "7382652cd0680a1513995f35e27445143478e2e9a2581787e75fd85f35c20ec7"), looks := false }, kinds := [], alts := [], laidByText := true, laidKinds := [.data], laidTests := true, laidLooks := .later }
def LedgerNilCardSaid : Prop := Claim7.holds Tryd.pinned (.plain (OpenSpec.ofChange ledgerNilSpec)) ledgerNilCard

/-- THE TIED CARD OF 'wardmotelaw11.LedgerTorn'. -/
def ledgerTornCard : Claim7 := { stood := { row := ledgerTornRow, standIns := [], harness := (true, "7382652cd0680a1513995f35e27445143478e2e9a2581787e75fd85f35c20ec7"), looks := false }, kinds := [], alts := [], laidByText := true, laidKinds := [.data], laidTests := true, laidLooks := .later }
def LedgerTornCardSaid : Prop := Claim7.holds Tryd.pinned (.plain (OpenSpec.ofChange ledgerTornSpec)) ledgerTornCard

/-- THE TIED CARD OF 'wardmotelaw11.LedgerSteps'. -/
def ledgerStepsCard : Claim7 := { stood := { row := ledgerStepsRow, standIns := [], harness := (true, "7382652cd0680a1513995f35e27445143478e2e9a2581787e75fd85f35c20ec7"), looks := false }, kinds := [], alts := [], laidByText := true, laidKinds := [.data], laidTests := true, laidLooks := .later }
def LedgerStepsCardSaid : Prop := Claim7.holds Tryd.pinned (.plain (OpenSpec.ofChange ledgerStepsSpec)) ledgerStepsCard

/-- THE SECOND FORM's CARD OF 'wardmotelaw11.LedgerGrows'. -/
def ledgerGrowsUptoCard : Claim7 := { stood := { row := ledgerGrowsUptoRow, standIns := [], harness := (true, "7382652cd0680a1513995f35e27445143478e2e9a2581787e75fd85f35c20ec7"), looks := false }, kinds := [], alts := [], laidByText := true, laidKinds := [.data], laidTests := true, laidLooks := .later }
def LedgerGrowsUptoCardSaid : Prop := Claim7.holds Tryd.pinned (.plain (OpenSpec.upto ledgerGrowsSpec)) ledgerGrowsUptoCard

/-- THE SECOND FORM's CARD OF 'wardmotelaw11.LedgerReads'. -/
def ledgerReadsUptoCard : Claim7 := { stood := { row := ledgerReadsUptoRow, standIns := [], harness := (true, "7382652cd0680a1513995f35e27445143478e2e9a2581787e75fd85f35c20ec7"), looks := false }, kinds := [], alts := [], laidByText := true, laidKinds := [.data], laidTests := true, laidLooks := .later }
def LedgerReadsUptoCardSaid : Prop := Claim7.holds Tryd.pinned (.plain (OpenSpec.upto ledgerReadsSpec)) ledgerReadsUptoCard

/-- THE SECOND FORM's CARD OF 'wardmotelaw11.LedgerNil'. -/
def ledgerNilUptoCard : Claim7 := { stood := { row := ledgerNilUptoRow, standIns := [], harness := (true, "7382652cd0680a1513995f35e27445143478e2e9a2581787e75fd85f35c20ec7"), looks := false }, kinds := [], alts := [], laidByText := true, laidKinds := [.data], laidTests := true, laidLooks := .later }
def LedgerNilUptoCardSaid : Prop := Claim7.holds Tryd.pinned (.plain (OpenSpec.upto ledgerNilSpec)) ledgerNilUptoCard

/-- THE SECOND FORM's CARD OF 'wardmotelaw11.LedgerTorn'. -/
def ledgerTornUptoCard : Claim7 := { stood := { row := ledgerTornUptoRow, standIns := [], harness := (true, "7382652cd0680a1513995f35e27445143478e2e9a2581787e75fd85f35c20ec7"), looks := false }, kinds := [], alts := [], laidByText := true, laidKinds := [.data], laidTests := true, laidLooks := .later }
def LedgerTornUptoCardSaid : Prop := Claim7.holds Tryd.pinned (.plain (OpenSpec.upto ledgerTornSpec)) ledgerTornUptoCard

/-- THE SECOND FORM's CARD OF 'wardmotelaw11.LedgerSteps'. -/
def ledgerStepsUptoCard : Claim7 := { stood := { row := ledgerStepsUptoRow, standIns := [], harness := (true, "7382652cd0680a1513995f35e27445143478e2e9a2581787e75fd85f35c20ec7"), looks := false }, kinds := [], alts := [], laidByText := true, laidKinds := [.data], laidTests := true, laidLooks := .later }
def LedgerStepsUptoCardSaid : Prop := Claim7.holds Tryd.pinned (.plain (OpenSpec.upto ledgerStepsSpec)) ledgerStepsUptoCard
end Rows
end Go.Proofs.YtmlfheagbfaoaaaDoor
