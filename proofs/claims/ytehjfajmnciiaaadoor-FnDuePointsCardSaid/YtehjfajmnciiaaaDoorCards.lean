/-
  DERIVED. GIVEN WITH THE SEED: THE CARDS: each row of YtehjfajmnciiaaaDoorRows.lean that lists a variable, with what it lists TIED to the program's text (the seventh form; the later family's looks); each row that meets fmt, with fmt's text TOLD by the authors' own Lean function (tested against real Go, not proved from fmt's source: count such statements apart). THE CARD IS WHAT COUNTS. Prove the row's statement (the work); the ties are given (YtehjfajmnciiaaaDoorTie.lean); close each card by the builder's one call (the guide's Derived/Test/ToyasCard.lean, 'card_holds'). Laid BY PROGRAM, IN A SANDBOX (cutbox-door.mjs). By AI agents, Wed Nov 11 2026. No macro, syntax, notation, axiom, sorry.
-/
import Derived.Test.YtehjfajmnciiaaaDoorRows
import GoSem.ClaimSeven
namespace Go.Proofs.YtehjfajmnciiaaaDoor
namespace Rows

/-- THE TIED CARD OF 'laws.FnDuePoints'. -/
def fnDuePointsCard : Claim7 := { stood := { row := fnDuePointsRow, standIns := [], harness := (true, "fff1acdeb7d10543bd6c860e3c057c45508ca7aef58c4b1322d0273d60447039"), looks := false }, kinds := [], alts := [], laidByText := true, laidKinds := [.data, .data, .data], laidTests := true, laidLooks := .later }
def FnDuePointsCardSaid : Prop := Claim7.holds Tryd.pinned (.plain (OpenSpec.ofChange fnDuePointsSpec)) fnDuePointsCard

/-- THE SECOND FORM's CARD OF 'laws.FnDuePoints'. -/
def fnDuePointsUptoCard : Claim7 := { stood := { row := fnDuePointsUptoRow, standIns := [], harness := (true, "fff1acdeb7d10543bd6c860e3c057c45508ca7aef58c4b1322d0273d60447039"), looks := false }, kinds := [], alts := [], laidByText := true, laidKinds := [.data, .data, .data], laidTests := true, laidLooks := .later }
def FnDuePointsUptoCardSaid : Prop := Claim7.holds Tryd.pinned (.plain (OpenSpec.upto fnDuePointsSpec)) fnDuePointsUptoCard
end Rows
end Go.Proofs.YtehjfajmnciiaaaDoor
