/-
  Tariffs: copies and comparisons. No condition.
-/
import Derived.Test.YtngfhpklakhehaaDoorTariff
namespace Go.Proofs.YtngfhpklakhehaaDoor
open Go.RowKit
set_option maxHeartbeats 400000

theorem eqTariff_yes (A : Option Addr) (n c : Nat) (A' : Option Addr) (n' c' : Nat) (xs : List Step) (h e : Int) (w : World) (B : Nat) (hB : B ≤ w.heap.size) (hn : n ≤ 2000000) (hx : Sl w B 2 encStep A n xs) (hy : Sl w B 2 encStep A' n' xs) :
    Calls Tryd.prog 6 #[.agg #[.slice A n c, .int .i64 h, .int .i64 e], .agg #[.slice A' n' c', .int .i64 h, .int .i64 e]] w fun r w' => r = .returned (.bool true) ∧ Below w.heap.size w w' := by
  go_enter Tryd.func6, Tryd.ntmps6
  go_wp2_with fail
  refine (eqStepS_yes A n c A' n' c' _ B (by simp; omega) xs hn ((hx.alloc hB _).alloc (by simp; omega) _) ((hy.alloc hB _).alloc (by simp; omega) _)).mono ?_
  rintro r w1 ⟨rfl, b1⟩
  have k1 : w1.cell? ⟨w.heap.size, 1, none⟩ = some (.int .i64 h) := (b1.cell (p := ⟨w.heap.size, 1, none⟩) (by simp; try omega)).trans (by go_simp)
  have k2 : w1.cell? ⟨w.heap.size, 2, none⟩ = some (.int .i64 e) := (b1.cell (p := ⟨w.heap.size, 2, none⟩) (by simp; try omega)).trans (by go_simp)
  have k3 : w1.cell? ⟨w.heap.size + 1, 1, none⟩ = some (.int .i64 h) := (b1.cell (p := ⟨w.heap.size + 1, 1, none⟩) (by simp; try omega)).trans (by go_simp)
  have k4 : w1.cell? ⟨w.heap.size + 1, 2, none⟩ = some (.int .i64 e) := (b1.cell (p := ⟨w.heap.size + 1, 2, none⟩) (by simp; try omega)).trans (by go_simp)
  have hbw : Below w.heap.size w w1 := (((Below.refl _ _).alloc (Nat.le_refl _) _).alloc (by simp) _).trans (b1.mono (by simp; omega))
  clear hx hy b1
  go_wp2_with fail
  go_ret
  exact ⟨rfl, hbw⟩
end Go.Proofs.YtngfhpklakhehaaDoor
