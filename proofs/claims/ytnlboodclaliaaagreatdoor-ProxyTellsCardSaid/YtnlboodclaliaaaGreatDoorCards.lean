/-
  DERIVED. GIVEN WITH THE SEED: THE CARDS: each row of YtnlboodclaliaaaGreatDoorRows.lean that lists a variable, with what it lists TIED to the program's text (the seventh form; the later family's looks); each row that meets fmt, with fmt's text TOLD by the authors' own Lean function (tested against real Go, not proved from fmt's source: count such statements apart). THE CARD IS WHAT COUNTS. Prove the row's statement (the work); the ties are given (YtnlboodclaliaaaGreatDoorTie.lean); close each card by the builder's one call (the guide's Derived/Test/ToyasCard.lean, 'card_holds'). Laid BY PROGRAM, IN A SANDBOX (cutbox-door.mjs). By AI agents, Wed Nov 11 2026. No macro, syntax, notation, axiom, sorry.
-/
import Derived.Test.YtnlboodclaliaaaGreatDoorRows
import GoSem.ClaimSeven
namespace Go.Proofs.YtnlboodclaliaaaGreatDoor
namespace Rows

/-- THE TIED CARD OF 'drawbridgelaw23.ProxyTells'. -/
def proxyTellsCard : Claim7 := { stood := { row := proxyTellsRow, standIns := [], harness := (true, "6561a42a0908d1850f683f3a8012e147d4eaf097390f50e121a867e33b06438d"), looks := true }, kinds := [], alts := [], laidByText := true, laidKinds := [.data, .data, .data, .data, .handle, .sentinel, .sentinel, .widerDeep, .widerDeep, .pinned], laidTests := true, laidLooks := .later }
def ProxyTellsCardSaid : Prop := Claim7.holds Tryz.pinned (.plain (OpenSpec.ofChange proxyTellsSpec)) proxyTellsCard

/-- THE SECOND FORM's CARD OF 'drawbridgelaw23.ProxyTells'. -/
def proxyTellsUptoCard : Claim7 := { stood := { row := proxyTellsUptoRow, standIns := [], harness := (true, "6561a42a0908d1850f683f3a8012e147d4eaf097390f50e121a867e33b06438d"), looks := true }, kinds := [], alts := [], laidByText := true, laidKinds := [.data, .data, .data, .data, .handle, .sentinel, .sentinel, .widerDeep, .widerDeep, .pinned], laidTests := true, laidLooks := .later }
def ProxyTellsUptoCardSaid : Prop := Claim7.holds Tryz.pinned (.plain (OpenSpec.upto proxyTellsSpec)) proxyTellsUptoCard
end Rows
end Go.Proofs.YtnlboodclaliaaaGreatDoor
