/-
  DERIVED. GIVEN WITH THE SEED: THE CARDS: each row of YtngfhpklakhehaaGreatDoorRows.lean that lists a variable, with what it lists TIED to the program's text (the seventh form; the later family's looks); each row that meets fmt, with fmt's text TOLD by the authors' own Lean function (tested against real Go, not proved from fmt's source: count such statements apart). THE CARD IS WHAT COUNTS. Prove the row's statement (the work); the ties are given (YtngfhpklakhehaaGreatDoorTie.lean); close each card by the builder's one call (the guide's Derived/Test/ToyasCard.lean, 'card_holds'). Laid BY PROGRAM, IN A SANDBOX (cutbox-door.mjs). By AI agents, Wed Nov 11 2026. No macro, syntax, notation, axiom, sorry.
-/
import Derived.Test.YtngfhpklakhehaaGreatDoorRows
import GoSem.ClaimSeven
namespace Go.Proofs.YtngfhpklakhehaaGreatDoor
namespace Rows

/-- THE TIED CARD OF 'laws.FnTariffs'. -/
def fnTariffsCard : Claim7 := { stood := { row := fnTariffsRow, standIns := [], harness := (true, "8d7f6abd341d3c442d41aa8cdb53a64e14708e219cb77c1975e85b489123693e"), looks := true }, kinds := [], alts := [], laidByText := true, laidKinds := [.data, .data, .data, .data, .sentinel, .sentinel, .pinned], laidTests := true, laidLooks := .later }
def FnTariffsCardSaid : Prop := Claim7.holds Tryz.pinned (.plain (OpenSpec.ofChange fnTariffsSpec)) fnTariffsCard

/-- THE SECOND FORM's CARD OF 'laws.FnTariffs'. -/
def fnTariffsUptoCard : Claim7 := { stood := { row := fnTariffsUptoRow, standIns := [], harness := (true, "8d7f6abd341d3c442d41aa8cdb53a64e14708e219cb77c1975e85b489123693e"), looks := true }, kinds := [], alts := [], laidByText := true, laidKinds := [.data, .data, .data, .data, .sentinel, .sentinel, .pinned], laidTests := true, laidLooks := .later }
def FnTariffsUptoCardSaid : Prop := Claim7.holds Tryz.pinned (.plain (OpenSpec.upto fnTariffsSpec)) fnTariffsUptoCard
end Rows
end Go.Proofs.YtngfhpklakhehaaGreatDoor
