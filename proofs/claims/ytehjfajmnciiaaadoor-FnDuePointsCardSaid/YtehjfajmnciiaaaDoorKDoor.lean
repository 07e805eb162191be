/-
  What the door's run leaves in the listed variables; what the condition gives the walks. No condition.
-/
import Derived.Test.YtehjfajmnciiaaaDoorKDec
import Derived.ProofKit
import Derived.LaidMore
import Derived.Stop.Joined
import Derived.Lib.LaidTab
import Derived.Stop.LaidErr
namespace Go.Proofs.YtehjfajmnciiaaaDoor
open Go.ChangeShapes Go.WideShapes Go.ChangeAt Go.RowKit Go.Stop Go.Extern.Stop

abbrev kLaid : List (String × DataW Unit) := Rows.fnDuePointsRow.laid
theorem kDoor_met (os : Os) (args : Array Value) : laidMetH Tryd.prog kLaid ((World.doorLaid Tryd.prog 24 os).forCall (fun _ _ => 0) ⟨#[], args, []⟩).memory :=
  laidMetH_of_parts3 (fuel := 8) (laidMet_of_run' 8 (by kernel_rfl) (by kernel_rfl)) (by kernel_rfl) (by kernel_rfl)
theorem kTab {W : World} (h : laidMetH Tryd.prog kLaid W) : TabW W := by
  rw [MakeChecks.laidMetH_plain _ _ _ (by kernel_rfl)] at h
  have h2 : laidMet Tryd.prog [("internal/strconv.uint64pow10", Lib.tabData .u64 Lib.pow10Tab)] W := laidMet.tail (laidMet.tail h)
  exact Lib.tabIs_of_head (g := 0) (t := 83) (e := 69) (n := 20) (by kernel_rfl) (by kernel_rfl) Tryd.underlying83 Tryd.underlying69 (by kernel_rfl) (by kernel_rfl) h2
end Go.Proofs.YtehjfajmnciiaaaDoor
