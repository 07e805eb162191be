/-
  The statements on IdleTicks and LongestQueue, walked. No condition.
-/
import Derived.Test.YtfmlcoefohlanaaQFn3
import Derived.Test.YtfmlcoefohlanaaLawItem
namespace Go.Proofs.Ytfmlcoefohlanaa
open Go.RowKit
set_option maxHeartbeats 400000
theorem FnExactIdleTicks_walk (A : Option Addr) (n c : Nat) (xs : List Item) (w : World) (hn : n ≤ 9223372036854775807) (hx : Sl w w.heap.size 3 encItem A n xs) :
    Calls Try.prog 6 #[.slice A n c] w fun e w' => e = .returned (.bool true) ∧ Below w.heap.size w w' := by
  have HS := fun A n c w B hB hn hx => specIdleTicks_any A n c xs w B hB hn hx
  have HI := fun A n c w B hB hn hx => implIdleTicks_any A n c xs w B hB hn hx
  generalize (idleRes xs) = res at HS HI
  generalize (codeQ xs) = code at HS HI
  go_enter Try.func6, Try.ntmps6
  go_wp2_with fail
  refine (szItemS_any _ _ _ _ _ hn (by omega) (by omega)).mono ?_
  rintro e w' ⟨rfl, rfl⟩
  by_cases hb : n ≤ 1048576
  · have h0 : ¬ szv 1048576 n < 0 := by unfold szv; split <;> omega
    go_wp2_with fail
    refine (toItemS_any A n c xs _ _ (Nat.le_refl _) (by omega) hx).mono ?_
    rintro e w1 ⟨g1, rfl, o1, b1⟩
    go_wp2_with fail
    refine (HS _ _ _ _ _ (Nat.le_refl _) (by omega) (own_sl encItem_len (by omega) o1)).mono ?_
    rintro e w2 ⟨rfl, b2⟩
    have b12 := b1.trans (b2.mono b1.size)
    go_wp2_with fail
    refine (toItemS_any A n c xs _ _ b12.size (by omega) (hx.below b12)).mono ?_
    rintro e w3 ⟨g3, rfl, o3, b3⟩
    have b13 := b12.trans (b3.mono b12.size)
    go_wp2_with fail
    refine (HI _ _ _ _ _ (Nat.le_refl _) (by omega) (own_sl encItem_len (by omega) o3)).mono ?_
    rintro e w4 ⟨rfl, b4⟩
    have b14 := b13.trans (b4.mono b13.size)
    go_wp2_with fail
    refine (toItemS_any A n c xs _ _ b14.size (by omega) (hx.below b14)).mono ?_
    rintro e w6 ⟨g6, rfl, o6, b6⟩
    have b16 := b14.trans (b6.mono b14.size)
    have r3 := own_below (own_below o3 b4) b6
    go_wp2_with fail
    refine (eqItemS_yes _ _ _ _ _ _ _ (Nat.le_refl _) xs (by omega) (own_sl encItem_len (by omega) r3) (own_sl encItem_len (by omega) o6)).mono ?_
    rintro e w7 ⟨rfl, b7⟩
    have b17 := b16.trans (b7.mono b16.size)
    go_wp2_with fail
    go_ret
    exact ⟨rfl, b17⟩
  · have h0 : szv 1048576 n < 0 := by unfold szv; split <;> omega
    go_wp2_with fail
    go_ret
    exact ⟨rfl, Below.refl _ _⟩

theorem FnExactLongestQueue_walk (A : Option Addr) (n c : Nat) (xs : List Item) (w : World) (hn : n ≤ 9223372036854775807) (hx : Sl w w.heap.size 3 encItem A n xs) :
    Calls Try.prog 7 #[.slice A n c] w fun e w' => e = .returned (.bool true) ∧ Below w.heap.size w w' := by
  have HS := fun A n c w B hB hn hx => specLongestQueue_any A n c xs w B hB hn hx
  have HI := fun A n c w B hB hn hx => implLongestQueue_any A n c xs w B hB hn hx
  generalize (longRes xs) = res at HS HI
  generalize (codeQ xs) = code at HS HI
  go_enter Try.func7, Try.ntmps7
  go_wp2_with fail
  refine (szItemS_any _ _ _ _ _ hn (by omega) (by omega)).mono ?_
  rintro e w' ⟨rfl, rfl⟩
  by_cases hb : n ≤ 1048576
  · have h0 : ¬ szv 1048576 n < 0 := by unfold szv; split <;> omega
    go_wp2_with fail
    refine (toItemS_any A n c xs _ _ (Nat.le_refl _) (by omega) hx).mono ?_
    rintro e w1 ⟨g1, rfl, o1, b1⟩
    go_wp2_with fail
    refine (HS _ _ _ _ _ (Nat.le_refl _) (by omega) (own_sl encItem_len (by omega) o1)).mono ?_
    rintro e w2 ⟨rfl, b2⟩
    have b12 := b1.trans (b2.mono b1.size)
    go_wp2_with fail
    refine (toItemS_any A n c xs _ _ b12.size (by omega) (hx.below b12)).mono ?_
    rintro e w3 ⟨g3, rfl, o3, b3⟩
    have b13 := b12.trans (b3.mono b12.size)
    go_wp2_with fail
    refine (HI _ _ _ _ _ (Nat.le_refl _) (by omega) (own_sl encItem_len (by omega) o3)).mono ?_
    rintro e w4 ⟨rfl, b4⟩
    have b14 := b13.trans (b4.mono b13.size)
    go_wp2_with fail
    refine (toItemS_any A n c xs _ _ b14.size (by omega) (hx.below b14)).mono ?_
    rintro e w6 ⟨g6, rfl, o6, b6⟩
    have b16 := b14.trans (b6.mono b14.size)
    have r3 := own_below (own_below o3 b4) b6
    go_wp2_with fail
    refine (eqItemS_yes _ _ _ _ _ _ _ (Nat.le_refl _) xs (by omega) (own_sl encItem_len (by omega) r3) (own_sl encItem_len (by omega) o6)).mono ?_
    rintro e w7 ⟨rfl, b7⟩
    have b17 := b16.trans (b7.mono b16.size)
    go_wp2_with fail
    go_ret
    exact ⟨rfl, b17⟩
  · have h0 : szv 1048576 n < 0 := by unfold szv; split <;> omega
    go_wp2_with fail
    go_ret
    exact ⟨rfl, Below.refl _ _⟩

end Go.Proofs.Ytfmlcoefohlanaa
