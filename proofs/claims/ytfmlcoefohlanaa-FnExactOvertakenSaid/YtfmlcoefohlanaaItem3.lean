/-
  Items are marked, one number a field. No condition.
-/
import Derived.Test.YtfmlcoefohlanaaItem2
import Derived.Test.YtfmlcoefohlanaaInt
namespace Go.Proofs.Ytfmlcoefohlanaa
open Go.RowKit
set_option maxHeartbeats 400000

theorem markItemS_any (lo : Nat) (A : Option Addr) (n c : Nat) (l : List Value) (w : World) (hn : n ≤ 2000000) (hown : w.ownsRow lo 39 3 (.slice A n c) n l) :
    Calls Try.prog 36 #[.slice A n c, .int .i64 1] w fun e w' => e = .returned (.int .i64 (1 + 3 * n)) ∧ w.grownBy w' (Value.slice A n c).ownBlock := by
  go_enter Try.func36, Try.ntmps36
  go_wp2
  go_loopw [1, 5] (fun s i w1 => ∃ k l1, k ≤ n ∧ i = .int .i64 (k : Nat) ∧ s = .int .i64 (1 + 3 * (k : Nat)) ∧ w1.ownsRow lo 39 3 (.slice A n c) n l1 ∧ w.grownBy w1 (Value.slice A n c).ownBlock) (fun _ i _ => n - (intOf i).toNat)
  case atStart => exact ⟨0, l, Nat.zero_le _, rfl, by go_num, hown, World.grownBy.refl _ _⟩
  case round =>
    obtain ⟨k, l1, hk, rfl, rfl, hown1, hg⟩ := hrel
    clear hown
    by_cases hlt : k < n
    · obtain ⟨g, rfl, hlo, hgs⟩ := own_some hown1 (by omega)
      obtain ⟨⟨u0, e0⟩, f0⟩ := own_at hown1 (Below.refl _ _) (k * 3) (by omega)
      obtain ⟨⟨u1, e1⟩, f1⟩ := own_at hown1 (Below.refl _ _) (k * 3 + 1) (by omega)
      obtain ⟨⟨u2, e2⟩, f2⟩ := own_at hown1 (Below.refl _ _) (k * 3 + 2) (by omega)
      go_wp2
      have s1 := hown1.stored (k * 3) (.int .i64 (1 + 3 * (k : Nat)))
      have s2 := s1.1.stored (k * 3 + 1) (.int .i64 (1 + 3 * (k : Nat) + 1))
      have s3 := s2.1.stored (k * 3 + 2) (.int .i64 (1 + 3 * (k : Nat) + 1 + 1))
      have hg2 := ((hg.trans s1.2).trans s2.2).trans s3.2
      go_roundw
      all_goals first | exact ⟨k + 1, _, by omega, by go_num, by go_num, s3.1, hg2⟩ | exact ⟨⟨k + 1, _, by omega, by go_num, by go_num, s3.1, hg2⟩, by simp [intOf]; omega⟩ | (simp [intOf]; omega)
    · have : k = n := by omega
      subst this
      go_wp2
      go_ret
      exact ⟨rfl, hg⟩
end Go.Proofs.Ytfmlcoefohlanaa
