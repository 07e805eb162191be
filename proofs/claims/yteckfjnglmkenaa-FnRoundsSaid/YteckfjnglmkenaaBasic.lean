/-
  Numbers within bounds, the greater of two, a number in a list. No condition.
-/
import Derived.Test.YteckfjnglmkenaaInt
namespace Go.Proofs.Yteckfjnglmkenaa
open Go.RowKit
set_option maxHeartbeats 400000

theorem within_any (n lo hi : Int) (w : World) :
    Calls Try.prog 50 #[.int .i64 n, .int .i64 lo, .int .i64 hi] w fun e w' => e = .returned (.bool (inR n lo hi)) ∧ w' = w := by
  go_enter Try.func50, Try.ntmps50
  go_wp2
  all_goals go_ret
  all_goals exact ⟨retB (by simp [inR]; try omega), rfl⟩
theorem l00In_any (n lo hi : Int) (w : World) :
    Calls Try.prog 42 #[.int .i64 n, .int .i64 lo, .int .i64 hi] w fun e w' => e = .returned (.bool (inR n lo hi)) ∧ w' = w := by
  go_enter Try.func42, Try.ntmps42
  go_wp2
  all_goals go_ret
  all_goals exact ⟨retB (by simp [inR]; try omega), rfl⟩

def hasI (l : List Int) (z : Int) : Bool := l.any fun y => y == z
theorem hasI_iff {l : List Int} {z : Int} : hasI l z = true ↔ z ∈ l := by simp [hasI]
theorem hasI_false {l : List Int} {z : Int} : hasI l z = false ↔ z ∉ l := by rw [← hasI_iff]; simp

theorem l00Has_any (A : Option Addr) (n c : Nat) (o : List Int) (z : Int) (w : World) (B : Nat) (hn : n ≤ 2000000) (hx : Sl w B 1 encI A n o) :
    Calls Try.prog 34 #[.slice A n c, .int .i64 z] w fun e w' => e = .returned (.bool (hasI o z)) ∧ w' = w := by
  go_enter Try.func34, Try.ntmps34
  go_wp2
  go_loop [5] (fun i => ∃ k : Nat, k ≤ n ∧ i = .int .i64 k ∧ Hid (hasI o z = hasI (o.drop k) z)) (fun i => n - (intOf i).toNat)
  case atStart => exact ⟨0, Nat.zero_le _, rfl, hid rfl⟩
  case round =>
    obtain ⟨k, hk, rfl, he⟩ := hrel
    by_cases hlt : k < n
    · obtain ⟨x, b, off, Hx, rfl, hbB, c0⟩ := hx.int hlt
      have he2 := he.out
      rw [drop_at Hx.out] at he2
      clear hx he
      by_cases hz : x = z
      · have He : Hid (hasI o z = true) := by rw [he2]; simp [Hid, hasI, hz]
        clear he2
        subst hz
        go_wp2
        go_ret
        exact ⟨retB He.out.symm, rfl⟩
      · have He : Hid (hasI o z = hasI (o.drop (k + 1)) z) := by rw [he2]; simp [Hid, hasI, hz]
        clear he2
        have hz2 : (x == z) = false := by simpa using hz
        go_wp2
        go_round
        case rel => exact ⟨k + 1, by omega, by go_num, He⟩
        case measure => simp [intOf]; omega
    · have : k = n := by omega
      subst this
      have he2 := he.out
      rw [List.drop_of_length_le (by rw [hx.len]; omega)] at he2
      have He := hid he2
      clear he he2
      go_wp2
      go_ret
      exact ⟨retB (by rw [He.out]; rfl), rfl⟩

end Go.Proofs.Yteckfjnglmkenaa
