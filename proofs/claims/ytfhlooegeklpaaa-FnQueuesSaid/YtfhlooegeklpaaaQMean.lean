/-
  MeanWait: greatest common divisors, the mean of the waits of a class. No condition.
-/
import Derived.Test.YtfhlooegeklpaaaQFn2
import Derived.StillTailTactics
namespace Go.Proofs.Ytfhlooegeklpaaa
open Go.RowKit
set_option maxHeartbeats 400000

theorem gcd_step (a b : Int) : Int.gcd b (a.tmod b) = Int.gcd a b := by
  unfold Int.gcd
  rw [Int.natAbs_tmod, Nat.gcd_comm b.natAbs, ← Nat.gcd_rec, Nat.gcd_comm]
theorem tmod_lt (a b : Int) (h : b ≠ 0) : (a.tmod b).natAbs < b.natAbs := by
  rw [Int.natAbs_tmod]; exact Nat.mod_lt _ (by omega)
set_option maxHeartbeats 1000000 in
theorem gcd_any (a b : Int) (w : World) (ha : -1000000000 ≤ a ∧ a ≤ 1000000000) (hb : -1000000000 ≤ b ∧ b ≤ 1000000000) :
    Calls Try.prog 42 #[.int .i64 a, .int .i64 b] w fun r w' => r = .returned (.int .i64 (Int.gcd a b : Nat)) ∧ Below w.heap.size w w' := by
  go_enter Try.func42, Try.ntmps42
  go_wp2
  go_loopw [0, 1] (fun x y wl => ∃ a' b' : Int, x = .int .i64 a' ∧ y = .int .i64 b' ∧ -1000000000 ≤ a' ∧ a' ≤ 1000000000 ∧ -1000000000 ≤ b' ∧ b' ≤ 1000000000 ∧ Hid (Int.gcd a' b' = Int.gcd a b) ∧ Below w.heap.size w wl) (fun _ y _ => (intOf y).natAbs)
  case atStart => exact ⟨a, b, rfl, rfl, ha.1, ha.2, hb.1, hb.2, hid rfl, Below.refl _ _⟩
  case round =>
    obtain ⟨a', b', rfl, rfl, a0, a1, b0, b1, hg, hbw⟩ := hrel
    by_cases h0 : b' = 0
    · subst h0
      have E : Hid ((Int.gcd a b : Nat) = a'.natAbs) := by rw [Hid, ← hg.out]; simp
      have hmx : max a' (-a') = (a'.natAbs : Int) := by omega
      clear hg hmx
      go_wp2
      all_goals go_ret
      all_goals exact ⟨retI (by rw [E.out]; omega), hbw⟩
    · have hlt := tmod_lt a' b' h0
      have h1 : (b' == 0) = false := by simpa using h0
      have h2 : (b' != 0) = true := by simpa using h0
      have hg2 := hid ((gcd_step a' b').trans hg.out)
      obtain ⟨q, hq⟩ : ∃ q, a'.tmod b' = q := ⟨_, rfl⟩
      have hw : IntKind.i64.wrap q = q := IntWalk.i64_in _ (by omega)
      rw [hq] at hlt hg2
      have q0 : -1000000000 ≤ q := by omega
      have q1 : q ≤ 1000000000 := by omega
      clear hg
      go_wp2
      go_quiet (fail)
      go_wp2
      have hb5 := below_drewN hbw nq
      go_roundw
      all_goals first | exact ⟨b', q, rfl, rfl, b0, b1, q0, q1, hg2, hb5⟩ | exact ⟨⟨b', q, rfl, rfl, b0, b1, q0, q1, hg2, hb5⟩, by simp [intOf]; omega⟩ | (simp [intOf]; omega)
set_option maxHeartbeats 1000000 in
theorem l00Gcd_any (a b : Int) (w : World) (ha : 0 ≤ a ∧ a ≤ 1000000000) (hb : 0 ≤ b ∧ b ≤ 1000000000) :
    Calls Try.prog 38 #[.int .i64 a, .int .i64 b] w fun r w' => r = .returned (.int .i64 (Int.gcd a b : Nat)) ∧ w' = w := by
  go_enter Try.func38, Try.ntmps38
  go_wp2
  go_loop [0, 1, 5] (fun x y _ => ∃ a' b' : Nat, x = .int .i64 a' ∧ y = .int .i64 b' ∧ a' ≤ 1000000000 ∧ b' ≤ 1000000000 ∧ Hid (Int.gcd (a' : Int) b' = Int.gcd a b)) (fun _ y _ => (intOf y).natAbs)
  case atStart => exact ⟨a.toNat, b.toNat, by rw [show ((a.toNat : Nat) : Int) = a by omega], by rw [show ((b.toNat : Nat) : Int) = b by omega], by omega, by omega, by rw [Hid, show ((a.toNat : Nat) : Int) = a by omega, show ((b.toNat : Nat) : Int) = b by omega]⟩
  case round =>
    obtain ⟨a', b', rfl, rfl, a1, b1, hg⟩ := hrel
    by_cases h0 : b' = 0
    · subst h0
      have E : Hid ((Int.gcd a b : Nat) = a') := by rw [Hid, ← hg.out]; simp
      clear hg
      go_wp2
      go_ret
      exact ⟨retI (by rw [E.out]), rfl⟩
    · have hlt : a' % b' < b' := Nat.mod_lt _ (by omega)
      have h1 : ((b' : Int) == 0) = false := by simp; omega
      have h2 : ((b' : Int) != 0) = true := by simp; omega
      have hg2 : Hid (Int.gcd (b' : Int) ((a' % b' : Nat) : Int) = Int.gcd a b) := by
        rw [Hid, ← hg.out, ← gcd_step (a' : Int) b']
        rfl
      have hp : (0 : Int) < (b' : Int) := by omega
      clear hg
      go_wp2
      go_round
      case rel => exact ⟨b', a' % b', rfl, by rfl, by omega, by omega, hg2⟩
      case measure => simp [intOf]; omega
end Go.Proofs.Ytfhlooegeklpaaa
