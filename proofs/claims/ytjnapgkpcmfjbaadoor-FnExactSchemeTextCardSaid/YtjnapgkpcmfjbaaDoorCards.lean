/-
  DERIVED. GIVEN WITH THE SEED: THE CARDS: each row of YtjnapgkpcmfjbaaDoorRows.lean that lists a variable, with what it lists TIED to the program's text (the seventh form; the later family's looks); each row that meets fmt, with fmt's text TOLD by the authors' own Lean function (tested against real Go, not proved from fmt's source: count such statements apart). THE CARD IS WHAT COUNTS. Prove the row's statement (the work); the ties are given (YtjnapgkpcmfjbaaDoorTie.lean); close each card by the builder's one call (the guide's Derived/Test/ToyasCard.lean, 'card_holds'). Laid BY PROGRAM, IN A SANDBOX (cutbox-door.mjs). By AI agents, Wed Nov 11 2026. No macro, syntax, notation, axiom, sorry.
-/
import Derived.Test.YtjnapgkpcmfjbaaDoorRows
import GoSem.ClaimSeven
namespace Go.Proofs.YtjnapgkpcmfjbaaDoor
namespace Rows

/-- THE TIED CARD OF 'laws.FnExactFaultText'. -/
def fnExactFaultTextCard : Claim7 := { stood := { row := fnExactFaultTextRow, standIns := [], harness := (true, "b488b443870f5d0544282ad626f1fa91b9e789a3697b2e07e432e7403d37f06c"), looks := false }, kinds := [], alts := [], laidByText := true, laidKinds := [.data, .data, .data], laidTests := true, laidLooks := .later }
def FnExactFaultTextCardSaid : Prop := Claim7.holds Tryd.pinned (.plain (OpenSpec.ofChange fnExactFaultTextSpec)) fnExactFaultTextCard

/-- THE TIED CARD OF 'laws.FnExactPointText'. -/
def fnExactPointTextCard : Claim7 := { stood := { row := fnExactPointTextRow, standIns := [], harness := (true, "b488b443870f5d0544282ad626f1fa91b9e789a3697b2e07e432e7403d37f06c"), looks := false }, kinds := [], alts := [], laidByText := true, laidKinds := [.data, .data, .data], laidTests := true, laidLooks := .later }
def FnExactPointTextCardSaid : Prop := Claim7.holds Tryd.pinned (.plain (OpenSpec.ofChange fnExactPointTextSpec)) fnExactPointTextCard

/-- THE TIED CARD OF 'laws.FnExactTariffText'. -/
def fnExactTariffTextCard : Claim7 := { stood := { row := fnExactTariffTextRow, standIns := [], harness := (true, "b488b443870f5d0544282ad626f1fa91b9e789a3697b2e07e432e7403d37f06c"), looks := false }, kinds := [], alts := [], laidByText := true, laidKinds := [.data, .data, .data], laidTests := true, laidLooks := .later }
def FnExactTariffTextCardSaid : Prop := Claim7.holds Tryd.pinned (.plain (OpenSpec.ofChange fnExactTariffTextSpec)) fnExactTariffTextCard

/-- THE TIED CARD OF 'laws.FnExactSchemeText'. -/
def fnExactSchemeTextCard : Claim7 := { stood := { row := fnExactSchemeTextRow, standIns := [], harness := (true, "b488b443870f5d0544282ad626f1fa91b9e789a3697b2e07e432e7403d37f06c"), looks := false }, kinds := [], alts := [], laidByText := true, laidKinds := [.data, .data, .data], laidTests := true, laidLooks := .later }
def FnExactSchemeTextCardSaid : Prop := Claim7.holds Tryd.pinned (.plain (OpenSpec.ofChange fnExactSchemeTextSpec)) fnExactSchemeTextCard

/-- THE SECOND FORM's CARD OF 'laws.FnExactFaultText'. -/
def fnExactFaultTextUptoCard : Claim7 := { stood := { row := fnExactFaultTextUptoRow, standIns := [], harness := (true, "b488b443870f5d0544282ad626f1fa91b9e789a3697b2e07e432e7403d37f06c"), looks := false }, kinds := [], alts := [], laidByText := true, laidKinds := [.data, .data, .data], laidTests := true, laidLooks := .later }
def FnExactFaultTextUptoCardSaid : Prop := Claim7.holds Tryd.pinned (.plain (OpenSpec.upto fnExactFaultTextSpec)) fnExactFaultTextUptoCard

/-- THE SECOND FORM's CARD OF 'laws.FnExactPointText'. -/
def fnExactPointTextUptoCard : Claim7 := { stood := { row := fnExactPointTextUptoRow, standIns := [], harness := (true, "b488b443870f5d0544282ad626f1fa91b9e789a3697b2e07e432e7403d37f06c"), looks := false }, kinds := [], alts := [], laidByText := true, laidKinds := [.data, .data, .data], laidTests := true, laidLooks := .later }
def FnExactPointTextUptoCardSaid : Prop := Claim7.holds Tryd.pinned (.plain (OpenSpec.upto fnExactPointTextSpec)) fnExactPointTextUptoCard

/-- THE SECOND FORM's CARD OF 'laws.FnExactTariffText'. -/
def fnExactTariffTextUptoCard : Claim7 := { stood := { row := fnExactTariffTextUptoRow, standIns := [], harness := (true, "b488b443870f5d0544282ad626f1fa91b9e789a3697b2e07e432e7403d37f06c"), looks := false }, kinds := [], alts := [], laidByText := true, laidKinds := [.data, .data, .data], laidTests := true, laidLooks := .later }
def FnExactTariffTextUptoCardSaid : Prop := Claim7.holds Tryd.pinned (.plain (OpenSpec.upto fnExactTariffTextSpec)) fnExactTariffTextUptoCard

/-- THE SECOND FORM's CARD OF 'laws.FnExactSchemeText'. -/
def fnExactSchemeTextUptoCard : Claim7 := { stood := { row := fnExactSchemeTextUptoRow, standIns := [], harness := (true, "b488b443870f5d0544282ad626f1fa91b9e789a3697b2e07e432e7403d37f06c"), looks := false }, kinds := [], alts := [], laidByText := true, laidKinds := [.data, .data, .data], laidTests := true, laidLooks := .later }
def FnExactSchemeTextUptoCardSaid : Prop := Claim7.holds Tryd.pinned (.plain (OpenSpec.upto fnExactSchemeTextSpec)) fnExactSchemeTextUptoCard
end Rows
end Go.Proofs.YtjnapgkpcmfjbaaDoor
