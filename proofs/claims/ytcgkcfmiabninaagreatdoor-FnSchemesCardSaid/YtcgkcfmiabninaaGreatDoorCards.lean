/-
  DERIVED. GIVEN WITH THE SEED: THE CARDS: each row of YtcgkcfmiabninaaGreatDoorRows.lean that lists a variable, with what it lists TIED to the program's text (the seventh form; the later family's looks); each row that meets fmt, with fmt's text TOLD by the authors' own Lean function (tested against real Go, not proved from fmt's source: count such statements apart). THE CARD IS WHAT COUNTS. Prove the row's statement (the work); the ties are given (YtcgkcfmiabninaaGreatDoorTie.lean); close each card by the builder's one call (the guide's Derived/Test/ToyasCard.lean, 'card_holds'). Laid BY PROGRAM, IN A SANDBOX (cutbox-door.mjs). By AI agents, Wed Nov 11 2026. No macro, syntax, notation, axiom, sorry.
-/
import Derived.Test.YtcgkcfmiabninaaGreatDoorRows
import GoSem.ClaimSeven
namespace Go.Proofs.YtcgkcfmiabninaaGreatDoor
namespace Rows

/-- THE TIED CARD OF 'laws.FnExactReadScheme'. -/
def fnExactReadSchemeCard : Claim7 := { stood := { row := fnExactReadSchemeRow, standIns := [], harness := (true, "78e5e49bc46a9de5c4b3b3dccba1d57fcc7fb7fdd758a2b1e84da90ee041aa01"), looks := true }, kinds := [], alts := [], laidByText := true, laidKinds := [.data, .data, .data, .data, .sentinel, .sentinel, .pinned], laidTests := true, laidLooks := .later }
def FnExactReadSchemeCardSaid : Prop := Claim7.holds Tryz.pinned (.plain (OpenSpec.ofChange fnExactReadSchemeSpec)) fnExactReadSchemeCard

/-- THE TIED CARD OF 'laws.FnSchemes'. -/
def fnSchemesCard : Claim7 := { stood := { row := fnSchemesRow, standIns := [], harness := (true, "78e5e49bc46a9de5c4b3b3dccba1d57fcc7fb7fdd758a2b1e84da90ee041aa01"), looks := true }, kinds := [], alts := [], laidByText := true, laidKinds := [.data, .data, .data, .data, .sentinel, .sentinel, .pinned], laidTests := true, laidLooks := .later }
def FnSchemesCardSaid : Prop := Claim7.holds Tryz.pinned (.plain (OpenSpec.ofChange fnSchemesSpec)) fnSchemesCard

/-- THE SECOND FORM's CARD OF 'laws.FnExactReadScheme'. -/
def fnExactReadSchemeUptoCard : Claim7 := { stood := { row := fnExactReadSchemeUptoRow, standIns := [], harness := (true, "78e5e49bc46a9de5c4b3b3dccba1d57fcc7fb7fdd758a2b1e84da90ee041aa01"), looks := true }, kinds := [], alts := [], laidByText := true, laidKinds := [.data, .data, .data, .data, .sentinel, .sentinel, .pinned], laidTests := true, laidLooks := .later }
def FnExactReadSchemeUptoCardSaid : Prop := Claim7.holds Tryz.pinned (.plain (OpenSpec.upto fnExactReadSchemeSpec)) fnExactReadSchemeUptoCard

/-- THE SECOND FORM's CARD OF 'laws.FnSchemes'. -/
def fnSchemesUptoCard : Claim7 := { stood := { row := fnSchemesUptoRow, standIns := [], harness := (true, "78e5e49bc46a9de5c4b3b3dccba1d57fcc7fb7fdd758a2b1e84da90ee041aa01"), looks := true }, kinds := [], alts := [], laidByText := true, laidKinds := [.data, .data, .data, .data, .sentinel, .sentinel, .pinned], laidTests := true, laidLooks := .later }
def FnSchemesUptoCardSaid : Prop := Claim7.holds Tryz.pinned (.plain (OpenSpec.upto fnSchemesSpec)) fnSchemesUptoCard
end Rows
end Go.Proofs.YtcgkcfmiabninaaGreatDoor
