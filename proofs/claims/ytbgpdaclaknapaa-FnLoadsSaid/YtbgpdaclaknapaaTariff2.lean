/-
  Tariffs: copies and comparisons. No condition.
-/
import Derived.Test.YtbgpdaclaknapaaTariff
namespace Go.Proofs.Ytbgpdaclaknapaa
open Go.RowKit
set_option maxHeartbeats 400000

theorem szTariff_any (A : Option Addr) (n c : Nat) (h e left : Int) (w : World) (hn : n ≤ 9223372036854775807) (h0 : 0 ≤ left) (h1 : left ≤ 1048576) :
    Calls Try.prog 6 #[.agg #[.slice A n c, .int .i64 h, .int .i64 e], .int .i64 left] w fun r w' => r = .returned (.int .i64 (szStep left n)) ∧ Below w.heap.size w w' := by
  go_enter Try.func6, Try.ntmps6
  go_wp2_with (go_at_call 30; refine (szStepS_any _ _ _ _ _ hn h0 h1).mono ?_; rintro r w1 ⟨rfl, rfl⟩)
  all_goals go_ret
  all_goals refine ⟨?_, ?_⟩
  all_goals first | rfl | ((repeat (first | with_reducible assumption | with_reducible exact Below.refl _ _ | with_reducible refine bl_drew ?_ | with_reducible refine bl_drewN ?_ | ((with_reducible refine bl_set ?_ ?_); focus (first | (simp; done) | (simp; omega) | omega)) | ((with_reducible refine bl_alloc ?_ ?_); focus (first | (simp; done) | (simp; omega) | omega)))); done) | (refine retI ?_; unfold szStep at *; split at * <;> first | rfl | omega)
theorem toTariff_any (A : Option Addr) (n c : Nat) (xs : List Step) (h e : Int) (w : World) (B : Nat) (hB : B ≤ w.heap.size) (hn : n ≤ 2000000) (hx : Sl w B 2 encStep A n xs) :
    Calls Try.prog 8 #[.agg #[.slice A n c, .int .i64 h, .int .i64 e]] w fun r w' => ∃ g, r = .returned (.agg #[.slice (some ⟨g, 0, none⟩) n n, .int .i64 h, .int .i64 e]) ∧ w'.ownsRow w.heap.size 56 2 (.slice (some ⟨g, 0, none⟩) n n) n (xs.flatMap encStep) ∧ Below w.heap.size w w' := by
  go_enter Try.func8, Try.ntmps8
  go_wp2_with fail
  refine (toStepS_any A n c xs _ B (by simp; omega) hn ((((hx.alloc hB _).alloc (by simp; omega) _).alloc (by simp; omega) _))).mono ?_
  rintro r w1 ⟨g, rfl, o1, b1⟩
  have k0 : w1.cell? ⟨w.heap.size, 1, none⟩ = some (.int .i64 h) := (b1.cell (p := ⟨w.heap.size, 1, none⟩) (by simp; try omega)).trans (by go_simp)
  have k1 : w1.cell? ⟨w.heap.size, 2, none⟩ = some (.int .i64 e) := (b1.cell (p := ⟨w.heap.size, 2, none⟩) (by simp; try omega)).trans (by go_simp)
  have k2 : w1.cell? ⟨w.heap.size + 1, 0, none⟩ = some (.slice none 0 0) := (b1.cell (p := ⟨w.heap.size + 1, 0, none⟩) (by simp; try omega)).trans (by go_simp)
  have f2 : w1.frozen? ⟨w.heap.size + 1, 0, none⟩ = false := (b1.frozen (p := ⟨w.heap.size + 1, 0, none⟩) (by simp; try omega)).trans (by go_simp)
  have k3 : w1.cell? ⟨w.heap.size + 1, 1, none⟩ = some (.int .i64 0) := (b1.cell (p := ⟨w.heap.size + 1, 1, none⟩) (by simp; try omega)).trans (by go_simp)
  have f3 : w1.frozen? ⟨w.heap.size + 1, 1, none⟩ = false := (b1.frozen (p := ⟨w.heap.size + 1, 1, none⟩) (by simp; try omega)).trans (by go_simp)
  have k4 : w1.cell? ⟨w.heap.size + 1, 2, none⟩ = some (.int .i64 0) := (b1.cell (p := ⟨w.heap.size + 1, 2, none⟩) (by simp; try omega)).trans (by go_simp)
  have f4 : w1.frozen? ⟨w.heap.size + 1, 2, none⟩ = false := (b1.frozen (p := ⟨w.heap.size + 1, 2, none⟩) (by simp; try omega)).trans (by go_simp)
  have k5 : w1.cell? ⟨w.heap.size + 1 + 1, 0, none⟩ = some (.slice none 0 0) := (b1.cell (p := ⟨w.heap.size + 1 + 1, 0, none⟩) (by simp; try omega)).trans (by go_simp)
  have f5 : w1.frozen? ⟨w.heap.size + 1 + 1, 0, none⟩ = false := (b1.frozen (p := ⟨w.heap.size + 1 + 1, 0, none⟩) (by simp; try omega)).trans (by go_simp)
  have k6 : w1.cell? ⟨w.heap.size + 1 + 1, 1, none⟩ = some (.int .i64 0) := (b1.cell (p := ⟨w.heap.size + 1 + 1, 1, none⟩) (by simp; try omega)).trans (by go_simp)
  have f6 : w1.frozen? ⟨w.heap.size + 1 + 1, 1, none⟩ = false := (b1.frozen (p := ⟨w.heap.size + 1 + 1, 1, none⟩) (by simp; try omega)).trans (by go_simp)
  have k7 : w1.cell? ⟨w.heap.size + 1 + 1, 2, none⟩ = some (.int .i64 0) := (b1.cell (p := ⟨w.heap.size + 1 + 1, 2, none⟩) (by simp; try omega)).trans (by go_simp)
  have f7 : w1.frozen? ⟨w.heap.size + 1 + 1, 2, none⟩ = false := (b1.frozen (p := ⟨w.heap.size + 1 + 1, 2, none⟩) (by simp; try omega)).trans (by go_simp)
  have hs := b1.size
  simp only [World.size_alloc] at hs
  have o1' := o1.mono (show w.heap.size + 1 + 1 + 1 ≤ _ by simp)
  have hbw : Below w.heap.size w w1 := ((((Below.refl _ _).alloc (Nat.le_refl _) _).alloc (by simp) _).alloc (by simp; omega) _).trans (b1.mono (by simp; omega))
  clear o1 b1 hx
  go_wp2_with fail
  refine bodyPost_ret (v := .agg #[.slice (some ⟨g, 0, none⟩) n n, .int .i64 h, .int .i64 e]) ?_ rfl ⟨g, rfl, ?_, ?_⟩
  · simp [results, Try.results8, go_sem, k2, k3, k4]
  · have hg := (own_lt o1').1
    have o2 := o1'.mono (show w.heap.size ≤ _ by omega)
    (repeat (first | with_reducible exact o2 | with_reducible refine ow_drew ?_ | with_reducible refine ow_drewN ?_ | with_reducible refine ow_alloc ?_ | ((with_reducible refine ow_set ?_ ?_); focus (first | (simp [Value.ownBlock]; done) | (simp [Value.ownBlock]; omega)))))
  · repeat (first | with_reducible assumption | with_reducible exact Below.refl _ _ | with_reducible refine bl_drew ?_ | with_reducible refine bl_drewN ?_ | ((with_reducible refine bl_set ?_ ?_); focus (first | (simp; done) | (simp; omega) | omega)) | ((with_reducible refine bl_alloc ?_ ?_); focus (first | (simp; done) | (simp; omega) | omega)))
theorem eqTariff_yes (A : Option Addr) (n c : Nat) (A' : Option Addr) (n' c' : Nat) (xs : List Step) (h e : Int) (w : World) (B : Nat) (hB : B ≤ w.heap.size) (hn : n ≤ 2000000) (hx : Sl w B 2 encStep A n xs) (hy : Sl w B 2 encStep A' n' xs) :
    Calls Try.prog 10 #[.agg #[.slice A n c, .int .i64 h, .int .i64 e], .agg #[.slice A' n' c', .int .i64 h, .int .i64 e]] w fun r w' => r = .returned (.bool true) ∧ Below w.heap.size w w' := by
  go_enter Try.func10, Try.ntmps10
  go_wp2_with fail
  refine (eqStepS_yes A n c A' n' c' _ B (by simp; omega) xs hn ((hx.alloc hB _).alloc (by simp; omega) _) ((hy.alloc hB _).alloc (by simp; omega) _)).mono ?_
  rintro r w1 ⟨rfl, b1⟩
  have k1 : w1.cell? ⟨w.heap.size, 1, none⟩ = some (.int .i64 h) := (b1.cell (p := ⟨w.heap.size, 1, none⟩) (by simp; try omega)).trans (by go_simp)
  have k2 : w1.cell? ⟨w.heap.size, 2, none⟩ = some (.int .i64 e) := (b1.cell (p := ⟨w.heap.size, 2, none⟩) (by simp; try omega)).trans (by go_simp)
  have k3 : w1.cell? ⟨w.heap.size + 1, 1, none⟩ = some (.int .i64 h) := (b1.cell (p := ⟨w.heap.size + 1, 1, none⟩) (by simp; try omega)).trans (by go_simp)
  have k4 : w1.cell? ⟨w.heap.size + 1, 2, none⟩ = some (.int .i64 e) := (b1.cell (p := ⟨w.heap.size + 1, 2, none⟩) (by simp; try omega)).trans (by go_simp)
  have hbw : Below w.heap.size w w1 := (((Below.refl _ _).alloc (Nat.le_refl _) _).alloc (by simp) _).trans (b1.mono (by simp; omega))
  clear hx hy b1
  go_wp2_with fail
  go_ret
  exact ⟨rfl, hbw⟩
end Go.Proofs.Ytbgpdaclaknapaa
