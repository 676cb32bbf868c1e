/-
  DERIVED. GIVEN WITH THE SEED: THE CARDS: each row of YtkmbpakhbicnaaaDoorRows.lean that lists a variable, with what it lists TIED to the program's text (the seventh form; the later family's looks); each row that meets fmt, with fmt's text TOLD by the authors' own Lean function (tested against real Go, not proved from fmt's source: count such statements apart). THE CARD IS WHAT COUNTS. Prove the row's statement (the work); the ties are given (YtkmbpakhbicnaaaDoorTie.lean); close each card by the builder's one call (the guide's Derived/Test/ToyasCard.lean, 'card_holds'). Laid BY PROGRAM, IN A SANDBOX (cutbox-door.mjs). By AI agents, Wed Nov 11 2026. No macro, syntax, notation, axiom, sorry.
-/
import Derived.Test.YtkmbpakhbicnaaaDoorRows
import GoSem.ClaimSeven
namespace Go.Proofs.YtkmbpakhbicnaaaDoor
namespace Rows

/-- THE TIED CARD OF 'wardmotelaw05.DomainApart'. -/
def domainApartCard : Claim7 := { stood := { row := domainApartRow, standIns := [], harness := (true, "b8fba75acb5abd0fc9d5039d52e77d8bd9f6fa9f97241c6e12f5e397c90ca0a3"), looks := false }, kinds := [], alts := [], laidByText := true, laidKinds := [.data], laidTests := true, laidLooks := .later }
def DomainApartCardSaid : Prop := Claim7.holds Tryd.pinned (.plain (OpenSpec.ofChange domainApartSpec)) domainApartCard

/-- THE TIED CARD OF 'wardmotelaw05.DomainBytes'. -/
def domainBytesCard : Claim7 := { stood := { row := domainBytesRow, standIns := [], harness := (true, "b8fba75acb5abd0fc9d5039d52e77d8bd9f6fa9f97241c6e12f5e397c90ca0a3"), looks := false }, kinds := [], alts := [], laidByText := true, laidKinds := [.data], laidTests := true, laidLooks := .later }
def DomainBytesCardSaid : Prop := Claim7.holds Tryd.pinned (.plain (OpenSpec.ofChange domainBytesSpec)) domainBytesCard

/-- THE TIED CARD OF 'wardmotelaw05.DomainDraws'. -/
def domainDrawsCard : Claim7 := { stood := { row := domainDrawsRow, standIns := [], harness := (true, "b8fba75acb5abd0fc9d5039d52e77d8bd9f6fa9f97241c6e12f5e397c90ca0a3"), looks := false }, kinds := [], alts := [], laidByText := true, laidKinds := [.data], laidTests := true, laidLooks := .later }
def DomainDrawsCardSaid : Prop := Claim7.holds Tryd.pinned (.plain (OpenSpec.ofChange domainDrawsSpec)) domainDrawsCard

/-- THE SECOND FORM's CARD OF 'wardmotelaw05.DomainApart'. -/
def domainApartUptoCard : Claim7 := { stood := { row := domainApartUptoRow, standIns := [], harness := (true, "b8fba75acb5abd0fc9d5039d52e77d8bd9f6fa9f97241c6e12f5e397c90ca0a3"), looks := false }, kinds := [], alts := [], laidByText := true, laidKinds := [.data], laidTests := true, laidLooks := .later }
def DomainApartUptoCardSaid : Prop := Claim7.holds Tryd.pinned (.plain (OpenSpec.upto domainApartSpec)) domainApartUptoCard

/-- THE SECOND FORM's CARD OF 'wardmotelaw05.DomainBytes'. -/
def domainBytesUptoCard : Claim7 := { stood := { row := domainBytesUptoRow, standIns := [], harness := (true, "b8fba75acb5abd0fc9d5039d52e77d8bd9f6fa9f97241c6e12f5e397c90ca0a3"), looks := false }, kinds := [], alts := [], laidByText := true, laidKinds := [.data], laidTests := true, laidLooks := .later }
def DomainBytesUptoCardSaid : Prop := Claim7.holds Tryd.pinned (.plain (OpenSpec.upto domainBytesSpec)) domainBytesUptoCard

/-- THE SECOND FORM's CARD OF 'wardmotelaw05.DomainDraws'. -/
def domainDrawsUptoCard : Claim7 := { stood := { row := domainDrawsUptoRow, standIns := [], harness := (true, "b8fba75acb5abd0fc9d5039d52e77d8bd9f6fa9f97241c6e12f5e397c90ca0a3"), looks := false }, kinds := [], alts := [], laidByText := true, laidKinds := [.data], laidTests := true, laidLooks := .later }
def DomainDrawsUptoCardSaid : Prop := Claim7.holds Tryd.pinned (.plain (OpenSpec.upto domainDrawsSpec)) domainDrawsUptoCard
end Rows
end Go.Proofs.YtkmbpakhbicnaaaDoor
