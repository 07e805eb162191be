/-
  The statement on FaultText, walked. No condition but the table that lies laid.
-/
import Derived.Test.YtjnapgkpcmfjbaaDoorKFault
namespace Go.Proofs.YtjnapgkpcmfjbaaDoor
open Go.RowKit
set_option maxHeartbeats 400000

theorem toFault_any (x0 x1 : Int) (w : World) :
    Calls Tryd.prog 8 #[.agg #[.int .i64 x0, .int .i64 x1]] w fun e w' => e = .returned (.agg #[.int .i64 x0, .int .i64 x1]) ∧ Below w.heap.size w w' := by
  go_enter Tryd.func8, Tryd.ntmps8
  go_wp2
  refine bodyPost_ret (v := .agg #[.int .i64 x0, .int .i64 x1]) (by simp [results, Tryd.results8, go_sem]) rfl ⟨rfl, ?_⟩
  repeat (first | with_reducible assumption | with_reducible exact Below.refl _ _ | with_reducible refine bl_drew ?_ | with_reducible refine bl_drewN ?_ | ((with_reducible refine bl_set ?_ ?_); focus (first | (simp; done) | (simp; omega) | omega)) | ((with_reducible refine bl_alloc ?_ ?_); focus (first | (simp; done) | (simp; omega) | omega)))
set_option maxHeartbeats 4000000 in
set_option maxRecDepth 100000 in
theorem FnExactFaultText_walk (l c : Int) (w : World) (htab : TabW w) :
    Calls Tryd.prog 3 #[.agg #[.int .i64 l, .int .i64 c]] w fun r w' => r = .returned (.bool true) ∧ Below w.heap.size w w' := by
  have cT := fun W => toFault_any l c W
  have cS := fun W => specFaultText_any l c W
  have cI := fun W hW => implFaultText_any l c W hW
  generalize faultF l c = F at cS cI
  go_enter Tryd.func3, Tryd.ntmps3
  go_wp2_with fail
  refine (cT _).mono ?_
  rintro r w1 ⟨rfl, b1⟩
  have k0 : w1.cell? ⟨w.heap.size, 0, none⟩ = some (.int .i64 l) := below_cell (by go_simp) b1
  have k1 : w1.cell? ⟨w.heap.size, 1, none⟩ = some (.int .i64 c) := below_cell (by go_simp) b1
  have e1 : Below w.heap.size w w1 := ((Below.refl _ _).alloc (Nat.le_refl _) _).trans (b1.mono (by simp))
  clear b1
  go_wp2_with fail
  refine (cS _).mono ?_
  rintro r w2 ⟨rfl, b2⟩
  replace k0 := below_cell k0 b2
  replace k1 := below_cell k1 b2
  have lt0 := World.block_lt_of_cell? _ _ k0
  simp only at lt0
  have e2 := e1.trans (b2.mono e1.size)
  clear b2 e1
  go_wp2_with fail
  refine (cT _).mono ?_
  rintro r w3 ⟨rfl, b3⟩
  have e3 := e2.trans (b3.mono e2.size)
  clear b3 e2
  go_wp2_with fail
  refine (cI _ (htab.below e3)).mono ?_
  rintro r w4 ⟨rfl, b4⟩
  have e4 := e3.trans (b4.mono e3.size)
  clear b4 e3
  go_wp2_with fail
  go_ret
  exact ⟨rfl, e4⟩
end Go.Proofs.YtjnapgkpcmfjbaaDoor
