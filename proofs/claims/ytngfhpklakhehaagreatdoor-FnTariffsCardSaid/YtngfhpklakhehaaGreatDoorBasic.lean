/-
  Numbers within bounds, the greater of two, a number in a list. No condition.
-/
import Derived.Test.YtngfhpklakhehaaGreatDoorInt
namespace Go.Proofs.YtngfhpklakhehaaGreatDoor
open Go.RowKit
set_option maxHeartbeats 400000

theorem within_any (n lo hi : Int) (w : World) :
    Calls Tryz.prog 53 #[.int .i64 n, .int .i64 lo, .int .i64 hi] w fun e w' => e = .returned (.bool (inR n lo hi)) ∧ w' = w := by
  go_enter Tryz.func53, Tryz.ntmps53
  go_wp2
  all_goals go_ret
  all_goals exact ⟨retB (by simp [inR]; try omega), rfl⟩
theorem l00In_any (n lo hi : Int) (w : World) :
    Calls Tryz.prog 58 #[.int .i64 n, .int .i64 lo, .int .i64 hi] w fun e w' => e = .returned (.bool (inR n lo hi)) ∧ w' = w := by
  go_enter Tryz.func58, Tryz.ntmps58
  go_wp2
  all_goals go_ret
  all_goals exact ⟨retB (by simp [inR]; try omega), rfl⟩

def hasI (l : List Int) (z : Int) : Bool := l.any fun y => y == z
theorem hasI_iff {l : List Int} {z : Int} : hasI l z = true ↔ z ∈ l := by simp [hasI]
theorem hasI_false {l : List Int} {z : Int} : hasI l z = false ↔ z ∉ l := by rw [← hasI_iff]; simp


end Go.Proofs.YtngfhpklakhehaaGreatDoor
