/-
  DERIVED. GIVEN WITH THE SEED: THE CARDS: each row of YtjokcflpjpophaaGreatDoorRows.lean that lists a variable, with what it lists TIED to the program's text (the seventh form; the later family's looks); each row that meets fmt, with fmt's text TOLD by the authors' own Lean function (tested against real Go, not proved from fmt's source: count such statements apart). THE CARD IS WHAT COUNTS. Prove the row's statement (the work); the ties are given (YtjokcflpjpophaaGreatDoorTie.lean); close each card by the builder's one call (the guide's Derived/Test/ToyasCard.lean, 'card_holds'). Laid BY PROGRAM, IN A SANDBOX (cutbox-door.mjs). By AI agents, Wed Nov 11 2026. No macro, syntax, notation, axiom, sorry.
-/
import Derived.Test.YtjokcflpjpophaaGreatDoorRows
import GoSem.ClaimSeven
namespace Go.Proofs.YtjokcflpjpophaaGreatDoor
namespace Rows

/-- THE TIED CARD OF 'drawbridgelaw22.ConfigStays'. -/
def configStaysCard : Claim7 := { stood := { row := configStaysRow, standIns := [], harness := (true, "045a89ec1ef34af28be8c04e597da8b3e42b99b3adcb49377f13fdd37645d299"), looks := true }, kinds := [], alts := [], laidByText := true, laidKinds := [.data, .data, .data, .data, .sentinel, .sentinel, .pinned], laidTests := true, laidLooks := .later }
def ConfigStaysCardSaid : Prop := Claim7.holds Tryz.pinned (.plain (OpenSpec.ofChange configStaysSpec)) configStaysCard

/-- THE TIED CARD OF 'drawbridgelaw22.ConfigRoutes'. -/
def configRoutesCard : Claim7 := { stood := { row := configRoutesRow, standIns := [], harness := (true, "045a89ec1ef34af28be8c04e597da8b3e42b99b3adcb49377f13fdd37645d299"), looks := true }, kinds := [], alts := [], laidByText := true, laidKinds := [.data, .data, .data, .data, .sentinel, .sentinel, .pinned], laidTests := true, laidLooks := .later }
def ConfigRoutesCardSaid : Prop := Claim7.holds Tryz.pinned (.plain (OpenSpec.ofChange configRoutesSpec)) configRoutesCard

/-- THE TIED CARD OF 'drawbridgelaw22.ConfigLeads'. -/
def configLeadsCard : Claim7 := { stood := { row := configLeadsRow, standIns := [], harness := (true, "045a89ec1ef34af28be8c04e597da8b3e42b99b3adcb49377f13fdd37645d299"), looks := true }, kinds := [], alts := [], laidByText := true, laidKinds := [.data, .data, .data, .data, .sentinel, .sentinel, .pinned], laidTests := true, laidLooks := .later }
def ConfigLeadsCardSaid : Prop := Claim7.holds Tryz.pinned (.plain (OpenSpec.ofChange configLeadsSpec)) configLeadsCard

/-- THE SECOND FORM's CARD OF 'drawbridgelaw22.ConfigStays'. -/
def configStaysUptoCard : Claim7 := { stood := { row := configStaysUptoRow, standIns := [], harness := (true, "045a89ec1ef34af28be8c04e597da8b3e42b99b3adcb49377f13fdd37645d299"), looks := true }, kinds := [], alts := [], laidByText := true, laidKinds := [.data, .data, .data, .data, .sentinel, .sentinel, .pinned], laidTests := true, laidLooks := .later }
def ConfigStaysUptoCardSaid : Prop := Claim7.holds Tryz.pinned (.plain (OpenSpec.upto configStaysSpec)) configStaysUptoCard

/-- THE SECOND FORM's CARD OF 'drawbridgelaw22.ConfigRoutes'. -/
def configRoutesUptoCard : Claim7 := { stood := { row := configRoutesUptoRow, standIns := [], harness := (true, "045a89ec1ef34af28be8c04e597da8b3e42b99b3adcb49377f13fdd37645d299"), looks := true }, kinds := [], alts := [], laidByText := true, laidKinds := [.data, .data, .data, .data, .sentinel, .sentinel, .pinned], laidTests := true, laidLooks := .later }
def ConfigRoutesUptoCardSaid : Prop := Claim7.holds Tryz.pinned (.plain (OpenSpec.upto configRoutesSpec)) configRoutesUptoCard

/-- THE SECOND FORM's CARD OF 'drawbridgelaw22.ConfigLeads'. -/
def configLeadsUptoCard : Claim7 := { stood := { row := configLeadsUptoRow, standIns := [], harness := (true, "045a89ec1ef34af28be8c04e597da8b3e42b99b3adcb49377f13fdd37645d299"), looks := true }, kinds := [], alts := [], laidByText := true, laidKinds := [.data, .data, .data, .data, .sentinel, .sentinel, .pinned], laidTests := true, laidLooks := .later }
def ConfigLeadsUptoCardSaid : Prop := Claim7.holds Tryz.pinned (.plain (OpenSpec.upto configLeadsSpec)) configLeadsUptoCard
end Rows
end Go.Proofs.YtjokcflpjpophaaGreatDoor
