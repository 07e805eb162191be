/-
  The statement on PointText, walked. No condition but the table that lies laid.
-/
import Derived.Test.YtjnapgkpcmfjbaaDoorKPoint
namespace Go.Proofs.YtjnapgkpcmfjbaaDoor
open Go.RowKit
set_option maxHeartbeats 400000

set_option maxHeartbeats 4000000 in
set_option maxRecDepth 100000 in
theorem FnExactPointText_walk (l c : Int) (w : World) (htab : TabW w) :
    Calls Tryd.prog 4 #[.agg #[.int .i64 l, .int .i64 c]] w fun r w' => r = .returned (.bool true) ∧ Below w.heap.size w w' := by
  have cT := fun W => toPoint_any l c W
  have cS := fun W => specPointText_any l c W
  have cI := fun W hW => implPointText_any l c W hW
  generalize pointF l c = F at cS cI
  go_enter Tryd.func4, Tryd.ntmps4
  go_wp2_with fail
  refine (cT _).mono ?_
  rintro r w1 ⟨rfl, b1⟩
  have k0 : w1.cell? ⟨w.heap.size, 0, none⟩ = some (.int .i64 l) := below_cell (by go_simp) b1
  have k1 : w1.cell? ⟨w.heap.size, 1, none⟩ = some (.int .i64 c) := below_cell (by go_simp) b1
  have e1 : Below w.heap.size w w1 := ((Below.refl _ _).alloc (Nat.le_refl _) _).trans (b1.mono (by simp))
  clear b1
  go_wp2_with fail
  refine (cS _).mono ?_
  rintro r w2 ⟨rfl, b2⟩
  replace k0 := below_cell k0 b2
  replace k1 := below_cell k1 b2
  have lt0 := World.block_lt_of_cell? _ _ k0
  simp only at lt0
  have e2 := e1.trans (b2.mono e1.size)
  clear b2 e1
  go_wp2_with fail
  refine (cT _).mono ?_
  rintro r w3 ⟨rfl, b3⟩
  have e3 := e2.trans (b3.mono e2.size)
  clear b3 e2
  go_wp2_with fail
  refine (cI _ (htab.below e3)).mono ?_
  rintro r w4 ⟨rfl, b4⟩
  have e4 := e3.trans (b4.mono e3.size)
  clear b4 e3
  go_wp2_with fail
  go_ret
  exact ⟨rfl, e4⟩
end Go.Proofs.YtjnapgkpcmfjbaaDoor
