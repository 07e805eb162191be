/-
  The statement on MeanWait, walked. No condition.
-/
import Derived.Test.YtfhlooegeklpaaaQMean3
import Derived.Test.YtfhlooegeklpaaaItem2
import Derived.Test.YtfhlooegeklpaaaItem3
import Derived.Test.YtfhlooegeklpaaaLawItem
namespace Go.Proofs.Ytfhlooegeklpaaa
open Go.RowKit
set_option maxHeartbeats 400000

theorem eqFraction_yes (a b : Int) (w : World) : Calls Try.prog 10 #[.agg #[.int .i64 a, .int .i64 b], .agg #[.int .i64 a, .int .i64 b]] w fun r w' => r = .returned (.bool true) ∧ Below w.heap.size w w' := by
  go_enter Try.func10, Try.ntmps10
  go_wp2
  all_goals go_ret
  all_goals exact ⟨rfl, ((Below.refl _ _).alloc (Nat.le_refl _) _).alloc (by simp) _⟩
set_option maxHeartbeats 4000000 in
theorem FnExactMeanWait_walk (A : Option Addr) (n c : Nat) (xs : List Item) (cl : Int) (w : World) (hn : n ≤ 9223372036854775807) (hx : Sl w w.heap.size 3 encItem A n xs) :
    Calls Try.prog 3 #[.slice A n c, .int .i64 cl] w fun e w' => e = .returned (.bool true) ∧ Below w.heap.size w w' := by
  have HS := fun A n c w B hB hn hx => specMeanWait_any A n c xs cl w B hB hn hx
  have HI := fun A n c w B hB hn hx => implMeanWait_any A n c xs cl w B hB hn hx
  generalize meanF xs cl = R at HS HI
  obtain ⟨⟨q1, q2⟩, q3⟩ := R
  go_enter Try.func3, Try.ntmps3
  go_wp2_with fail
  refine (szItemS_any _ _ _ _ _ hn (by omega) (by omega)).mono ?_
  rintro e w' ⟨rfl, rfl⟩
  by_cases hb : n ≤ 1048576
  · have h0 : ¬ szv 1048576 n < 0 := by unfold szv; split <;> omega
    go_wp2_with fail
    refine (toItemS_any A n c xs _ _ (Nat.le_refl _) (by omega) hx).mono ?_
    rintro e w1 ⟨g1, rfl, o1, b1⟩
    go_wp2_with fail
    refine (HS _ _ _ _ _ (Nat.le_refl _) (by omega) (own_sl encItem_len (by omega) o1)).mono ?_
    rintro e w2 ⟨rfl, b2⟩
    have b12 := b1.trans (b2.mono b1.size)
    obtain ⟨W2, hW2⟩ : ∃ W2, W2 = w2.alloc (.cells #[.int .i64 q1, .int .i64 q2] 25) := ⟨_, rfl⟩
    have a2 : Below w2.heap.size w2 W2 := by rw [hW2]; exact (Below.refl _ _).alloc (Nat.le_refl _) _
    have d0 : W2.cell? ⟨w2.heap.size, 0, none⟩ = some (.int .i64 q1) := by rw [hW2]; go_simp
    have d1 : W2.cell? ⟨w2.heap.size, 1, none⟩ = some (.int .i64 q2) := by rw [hW2]; go_simp
    have HW2 := hid hW2
    clear hW2
    have c12 := b12.trans (a2.mono b12.size)
    go_wp2_with fail
    rw [← HW2.out]
    refine (toItemS_any A n c xs _ _ c12.size (by omega) (hx.below c12)).mono ?_
    rintro e w3 ⟨g3, rfl, o3, b3⟩
    have b13 := c12.trans (b3.mono c12.size)
    replace d0 := below_cell d0 b3
    replace d1 := below_cell d1 b3
    go_wp2_with fail
    refine (HI _ _ _ _ _ (Nat.le_refl _) (by omega) (own_sl encItem_len (by omega) o3)).mono ?_
    rintro e w4 ⟨rfl, b4⟩
    have b14 := b13.trans (b4.mono b13.size)
    replace d0 := below_cell d0 b4
    replace d1 := below_cell d1 b4
    have r3 := own_below o3 b4
    have lt4 := World.block_lt_of_cell? _ _ d0
    simp only at lt4
    obtain ⟨W4, hW4⟩ : ∃ W4, W4 = w4.alloc (.cells #[.int .i64 q1, .int .i64 q2] 25) := ⟨_, rfl⟩
    have a4 : Below w4.heap.size w4 W4 := by rw [hW4]; exact (Below.refl _ _).alloc (Nat.le_refl _) _
    have r4 := own_below r3 a4
    have c14 := b14.trans (a4.mono b14.size)
    have HW4 := hid hW4
    clear hW4
    go_wp2_with fail
    rw [← HW4.out]
    refine (eqFraction_yes q1 q2 _).mono ?_
    rintro e w5 ⟨rfl, b5⟩
    have c15 := c14.trans (b5.mono c14.size)
    go_wp2_with fail
    refine (toItemS_any A n c xs _ _ c15.size (by omega) (hx.below c15)).mono ?_
    rintro e w6 ⟨g6, rfl, o6, b6⟩
    have b16 := c15.trans (b6.mono c15.size)
    have r6 := own_below (own_below r4 b5) b6
    go_wp2_with fail
    refine (eqItemS_yes _ _ _ _ _ _ _ (Nat.le_refl _) xs (by omega) (own_sl encItem_len (by omega) r6) (own_sl encItem_len (by omega) o6)).mono ?_
    rintro e w7 ⟨rfl, b7⟩
    have b17 := b16.trans (b7.mono b16.size)
    go_wp2_with fail
    go_ret
    exact ⟨rfl, b17⟩
  · have h0 : szv 1048576 n < 0 := by unfold szv; split <;> omega
    go_wp2_with fail
    go_ret
    exact ⟨rfl, Below.refl _ _⟩
end Go.Proofs.Ytfhlooegeklpaaa
