/-
  cmp.Compare, cmp.Or, slices.Index and slices.Contains over numbers. No condition.
-/
import Derived.Test.YtfhlooegeklpaaaInt
namespace Go.Proofs.Ytfhlooegeklpaaa
open Go.RowKit
set_option maxHeartbeats 400000

theorem Index_int (A : Option Addr) (n c : Nat) (o : List Int) (z : Int) (w : World) (B : Nat) (hn : n ≤ 2000000) (hx : Sl w B 1 encI A n o) :
    Calls Try.prog 52 #[.slice A n c, .int .i64 z] w fun e w' => e = .returned (.int .i64 (findFrom (fun y => z == y) 0 o)) ∧ w' = w := by
  go_enter Try.func52, Try.ntmps52
  go_wp2
  go_loop [5, 8] (fun _ i => ∃ k : Nat, k ≤ n ∧ i = .int .i64 k ∧ Hid (findFrom (fun y => z == y) 0 o = findFrom (fun y => z == y) k (o.drop k))) (fun _ i => n - (intOf i).toNat)
  case atStart => exact ⟨0, Nat.zero_le _, rfl, hid rfl⟩
  case round =>
    obtain ⟨k, hk, rfl, he⟩ := hrel
    by_cases hlt : k < n
    · obtain ⟨x, b, off, Hx, rfl, hbB, c0⟩ := hx.int hlt
      have he2 := he.out
      rw [drop_at Hx.out, findFrom] at he2
      clear hx he
      by_cases hz : z = x
      · have He : Hid (findFrom (fun y => z == y) 0 o = (k : Nat)) := by rw [he2]; simp [Hid, hz]
        clear he2
        subst hz
        go_wp2
        go_ret
        exact ⟨retI He.out.symm, rfl⟩
      · have He : Hid (findFrom (fun y => z == y) 0 o = findFrom (fun y => z == y) (k + 1) (o.drop (k + 1))) := by rw [he2]; simp [Hid, hz]
        clear he2
        have hz2 : (z == x) = false := by simpa using hz
        go_wp2
        go_round
        case rel => exact ⟨k + 1, by omega, by go_num, He⟩
        case measure => simp [intOf]; omega
    · have : k = n := by omega
      subst this
      have he2 := he.out
      rw [List.drop_of_length_le (by rw [hx.len]; omega)] at he2
      have He := hid he2
      clear he he2
      go_wp2
      go_ret
      exact ⟨retI (by rw [He.out]; rfl), rfl⟩
theorem Contains_int (A : Option Addr) (n c : Nat) (o : List Int) (z : Int) (w : World) (B : Nat) (hn : n ≤ 2000000) (hx : Sl w B 1 encI A n o) :
    Calls Try.prog 45 #[.slice A n c, .int .i64 z] w fun e w' => e = .returned (.bool (o.any fun y => z == y)) ∧ w' = w := by
  rw [← findFrom_any (fun y => z == y) o 0]
  have hc := Index_int A n c o z w B hn hx
  generalize findFrom (fun y => z == y) 0 o = r at hc
  clear hx
  go_enter Try.func45, Try.ntmps45
  go_wp2_with (go_at_call 52; refine hc.mono ?_; rintro e w' ⟨rfl, rfl⟩)
  go_ret
  exact ⟨rfl, rfl⟩

def cmpI (a b : Int) : Int := if a < b then -1 else if b < a then 1 else 0
theorem isNaN_any (a : Int) (w : World) : Calls Try.prog 53 #[.int .i64 a] w fun e w' => e = .returned (.bool false) ∧ w' = w := by
  go_enter Try.func53, Try.ntmps53
  go_wp2
  go_ret
  exact ⟨rfl, rfl⟩
theorem Compare_any (a b : Int) (w : World) : Calls Try.prog 47 #[.int .i64 a, .int .i64 b] w fun e w' => e = .returned (.int .i64 (cmpI a b)) ∧ w' = w := by
  go_enter Try.func47, Try.ntmps47
  go_wp2_with (go_at_call 53; refine (isNaN_any _ _).mono ?_; rintro e w' ⟨rfl, rfl⟩)
  all_goals go_ret
  all_goals exact ⟨retI (by unfold cmpI; split <;> (try split) <;> first | rfl | omega), rfl⟩
/-- the first of two numbers that is not 0 -/
def orI (a b : Int) : Int := if a = 0 then b else a
theorem Or_any (a b : Int) (g off c : Nat) (w : World) (h0 : w.cell? ⟨g, off, none⟩ = some (.int .i64 a)) (h1 : w.cell? ⟨g, off + 1, none⟩ = some (.int .i64 b)) :
    Calls Try.prog 46 #[.slice (some ⟨g, off, none⟩) 2 c] w fun e w' => e = .returned (.int .i64 (orI a b)) ∧ w' = w := by
  go_enter Try.func46, Try.ntmps46
  go_wp2
  go_loop [5, 8] (fun _ i => ∃ k : Nat, k ≤ 2 ∧ i = .int .i64 k ∧ (0 < k → a = 0) ∧ (1 < k → b = 0)) (fun _ i => 2 - (intOf i).toNat)
  case atStart => exact ⟨0, by omega, rfl, by omega, by omega⟩
  case round =>
    obtain ⟨k, hk, rfl, ha, hb⟩ := hrel
    rcases (show k = 0 ∨ k = 1 ∨ k = 2 by omega) with rfl | rfl | rfl
    · clear ha hb
      by_cases hz : a = 0
      · subst hz
        go_wp2
        go_round
        case rel => exact ⟨1, by omega, by go_num, by simp, by simp⟩
        case measure => simp [intOf]
      · have hz2 : (a == 0) = false := by simpa using hz
        go_wp2
        go_ret
        exact ⟨retI (by simp [orI, hz]), rfl⟩
    · have ha := ha (by omega)
      subst ha
      clear hb
      by_cases hz : b = 0
      · subst hz
        go_wp2
        go_round
        case rel => exact ⟨2, by omega, by go_num, by simp, by simp⟩
        case measure => simp [intOf]
      · have hz2 : (b == 0) = false := by simpa using hz
        go_wp2
        go_ret
        exact ⟨retI (by simp [orI]), rfl⟩
    · have ha := ha (by omega)
      have hb := hb (by omega)
      subst ha hb
      go_wp2
      go_ret
      exact ⟨retI (by simp [orI]), rfl⟩
end Go.Proofs.Ytfhlooegeklpaaa
