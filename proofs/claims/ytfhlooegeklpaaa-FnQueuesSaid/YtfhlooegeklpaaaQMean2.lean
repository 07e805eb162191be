/-
  MeanWait: fractions in lowest terms, both sides. No condition.
-/
import Derived.Test.YtfhlooegeklpaaaQMean
namespace Go.Proofs.Ytfhlooegeklpaaa
open Go.RowKit
set_option maxHeartbeats 400000

def lowF (a : Int) (c : Nat) : Int × Int := (a.tdiv (Int.gcd a c : Nat), (c : Int).tdiv (Int.gcd a c : Nat))
theorem tdiv_in (a : Int) (g : Nat) (h : -1000000000 ≤ a ∧ a ≤ 1000000000) : -1000000000 ≤ a.tdiv g ∧ a.tdiv g ≤ 1000000000 := by
  have h1 : (a.tdiv g).natAbs ≤ a.natAbs := by rw [Int.natAbs_tdiv]; exact Nat.div_le_self _ _
  omega
theorem l00Size_any (a : Int) (w : World) (ha : -1000000 ≤ a ∧ a ≤ 1000000) : Calls Try.prog 39 #[.int .i64 a] w fun r w' => r = .returned (.int .i64 (a.natAbs : Int)) ∧ w' = w := by
  obtain ⟨a0, a1⟩ := ha
  go_enter Try.func39, Try.ntmps39
  go_wp2
  all_goals go_ret
  all_goals exact ⟨retI (by omega), rfl⟩
set_option maxHeartbeats 1000000 in
theorem lowest_any (a : Int) (c : Nat) (w : World) (ha : -1000000 ≤ a ∧ a ≤ 1000000) (hc : c ≤ 1000000) (hc0 : 0 < c) :
    Calls Try.prog 32 #[.int .i64 a, .int .i64 c] w fun r w' => r = .returned (.agg #[.int .i64 (lowF a c).1, .int .i64 (lowF a c).2]) ∧ Below w.heap.size w w' := by
  have hgp : 0 < Int.gcd a c := by
    rcases Nat.eq_zero_or_pos (Int.gcd a c) with h | h
    · rw [Int.gcd_eq_zero_iff] at h; omega
    · exact h
  have hg1 := tdiv_in a (Int.gcd a c) (by omega)
  have hg2 := tdiv_in (c : Int) (Int.gcd a c) (by omega)
  have E := hid (show lowF a c = (a.tdiv (Int.gcd a c : Nat), (c : Int).tdiv (Int.gcd a c : Nat)) from rfl)
  have E3 : Hid (Int.gcd (a.natAbs : Int) c = Int.gcd a c) := by simp [Hid, Int.gcd]
  have hd := fun W => gcd_any a c W (by omega) (by omega)
  have hd2 := fun W => l00Gcd_any (a.natAbs : Int) c W (by omega) (by omega)
  have hsz := fun W => l00Size_any a W (by omega)
  rw [E3.out] at hd2
  generalize Int.gcd a c = g at *
  obtain ⟨q1, h1⟩ : ∃ q1, a.tdiv g = q1 := ⟨_, rfl⟩
  obtain ⟨q2, h2⟩ : ∃ q2, (c : Int).tdiv g = q2 := ⟨_, rfl⟩
  rw [h1] at hg1 E
  rw [h2] at hg2 E
  have w1 : IntKind.i64.wrap q1 = q1 := IntWalk.i64_in _ (by omega)
  have w2 : IntKind.i64.wrap q2 = q2 := IntWalk.i64_in _ (by omega)
  have n0 : ((g : Int) == 0) = false := by simp; omega
  have n1 : ¬ (g : Int) = 0 := by omega
  have n2 : ¬ (c : Int) < 0 := by omega
  have n3 : ¬ g = 0 := by omega
  have hn1 := hid hg1
  have hn2 := hid hg2
  clear hg1 hg2 E3
  obtain ⟨W0, hW0⟩ : ∃ W0, W0 = w.alloc (.cells #[.int .i64 0, .int .i64 0] 25) := ⟨_, rfl⟩
  have b0 : Below w.heap.size w W0 := by rw [hW0]; exact (Below.refl _ _).alloc (Nat.le_refl _) _
  have d0 : W0.cell? ⟨w.heap.size, 0, none⟩ = some (.int .i64 0) := by rw [hW0]; go_simp
  have d1 : W0.cell? ⟨w.heap.size, 1, none⟩ = some (.int .i64 0) := by rw [hW0]; go_simp
  have f0 : W0.frozen? ⟨w.heap.size, 0, none⟩ = false := by rw [hW0]; go_simp
  have f1 : W0.frozen? ⟨w.heap.size, 1, none⟩ = false := by rw [hW0]; go_simp
  have HW := hid hW0
  clear hW0
  go_enter Try.func32, Try.ntmps32
  go_wp2_with fail
  rw [← HW.out]
  first
    | (refine (hd _).mono ?_
       rintro r w1 ⟨rfl, b1⟩)
    | (refine (hsz _).mono ?_
       rintro r w9 ⟨rfl, e⟩
       replace e := e.symm
       subst e
       go_wp2_with fail
       refine (hd2 _).mono ?_
       rintro r w1 ⟨rfl, e⟩
       have b1 : Below W0.heap.size W0 w1 := by rw [e]; exact Below.refl _ _
       clear e)
  have f0' : w1.frozen? ⟨w.heap.size, 0, none⟩ = false := (b1.frozen (p := ⟨w.heap.size, 0, none⟩) (World.block_lt_of_cell? _ _ d0)).trans f0
  have f1' : w1.frozen? ⟨w.heap.size, 1, none⟩ = false := (b1.frozen (p := ⟨w.heap.size, 1, none⟩) (World.block_lt_of_cell? _ _ d1)).trans f1
  replace d0 := below_cell d0 b1
  replace d1 := below_cell d1 b1
  clear f0 f1 hd hd2 hsz
  go_wp2_with fail
  first
    | go_still_tail 7, (by kernel_rfl)
    | go_still_tail 7, (by kernel_rfl)
  change wpList _ _ _ _ _ w1.drew
  go_wp2_with fail
  have bF : Below w.heap.size w (((w1.setCell ⟨w.heap.size, 0, none⟩ (.int .i64 q1)).setCell ⟨w.heap.size, 1, none⟩ (.int .i64 q2)).drew) := (((b0.trans (b1.mono b0.size)).setCell (by simp) _).setCell (by simp) _).drew
  have k0 : (w1.setCell ⟨w.heap.size, 0, none⟩ (.int .i64 q1)).cell? ⟨w.heap.size, 0, none⟩ = some (.int .i64 q1) := by go_simp
  have k1 : ((w1.setCell ⟨w.heap.size, 0, none⟩ (.int .i64 q1)).setCell ⟨w.heap.size, 1, none⟩ (.int .i64 q2)).cell? ⟨w.heap.size, 1, none⟩ = some (.int .i64 q2) := by go_simp
  rw [E.out]
  exact bodyPost_ret (v := .agg #[.int .i64 q1, .int .i64 q2]) (by simp [results, Try.results32, go_sem, k0, k1]) rfl ⟨rfl, bF⟩
set_option maxHeartbeats 1000000 in
theorem l02Make_any (a : Int) (c : Nat) (w : World) (ha : -1000000 ≤ a ∧ a ≤ 1000000) (hc : c ≤ 1000000) (hc0 : 0 < c) :
    Calls Try.prog 27 #[.int .i64 a, .int .i64 c] w fun r w' => r = .returned (.agg #[.int .i64 (lowF a c).1, .int .i64 (lowF a c).2]) ∧ Below w.heap.size w w' := by
  have hgp : 0 < Int.gcd a c := by
    rcases Nat.eq_zero_or_pos (Int.gcd a c) with h | h
    · rw [Int.gcd_eq_zero_iff] at h; omega
    · exact h
  have hg1 := tdiv_in a (Int.gcd a c) (by omega)
  have hg2 := tdiv_in (c : Int) (Int.gcd a c) (by omega)
  have E := hid (show lowF a c = (a.tdiv (Int.gcd a c : Nat), (c : Int).tdiv (Int.gcd a c : Nat)) from rfl)
  have E3 : Hid (Int.gcd (a.natAbs : Int) c = Int.gcd a c) := by simp [Hid, Int.gcd]
  have hd := fun W => gcd_any a c W (by omega) (by omega)
  have hd2 := fun W => l00Gcd_any (a.natAbs : Int) c W (by omega) (by omega)
  have hsz := fun W => l00Size_any a W (by omega)
  rw [E3.out] at hd2
  generalize Int.gcd a c = g at *
  obtain ⟨q1, h1⟩ : ∃ q1, a.tdiv g = q1 := ⟨_, rfl⟩
  obtain ⟨q2, h2⟩ : ∃ q2, (c : Int).tdiv g = q2 := ⟨_, rfl⟩
  rw [h1] at hg1 E
  rw [h2] at hg2 E
  have w1 : IntKind.i64.wrap q1 = q1 := IntWalk.i64_in _ (by omega)
  have w2 : IntKind.i64.wrap q2 = q2 := IntWalk.i64_in _ (by omega)
  have n0 : ((g : Int) == 0) = false := by simp; omega
  have n1 : ¬ (g : Int) = 0 := by omega
  have n2 : ¬ (c : Int) < 0 := by omega
  have n3 : ¬ g = 0 := by omega
  have hn1 := hid hg1
  have hn2 := hid hg2
  clear hg1 hg2 E3
  obtain ⟨W0, hW0⟩ : ∃ W0, W0 = w.alloc (.cells #[.int .i64 0, .int .i64 0] 25) := ⟨_, rfl⟩
  have b0 : Below w.heap.size w W0 := by rw [hW0]; exact (Below.refl _ _).alloc (Nat.le_refl _) _
  have d0 : W0.cell? ⟨w.heap.size, 0, none⟩ = some (.int .i64 0) := by rw [hW0]; go_simp
  have d1 : W0.cell? ⟨w.heap.size, 1, none⟩ = some (.int .i64 0) := by rw [hW0]; go_simp
  have f0 : W0.frozen? ⟨w.heap.size, 0, none⟩ = false := by rw [hW0]; go_simp
  have f1 : W0.frozen? ⟨w.heap.size, 1, none⟩ = false := by rw [hW0]; go_simp
  have HW := hid hW0
  clear hW0
  go_enter Try.func27, Try.ntmps27
  go_wp2_with fail
  rw [← HW.out]
  first
    | (refine (hd _).mono ?_
       rintro r w1 ⟨rfl, b1⟩)
    | (refine (hsz _).mono ?_
       rintro r w9 ⟨rfl, e⟩
       replace e := e.symm
       subst e
       go_wp2_with fail
       refine (hd2 _).mono ?_
       rintro r w1 ⟨rfl, e⟩
       have b1 : Below W0.heap.size W0 w1 := by rw [e]; exact Below.refl _ _
       clear e)
  have f0' : w1.frozen? ⟨w.heap.size, 0, none⟩ = false := (b1.frozen (p := ⟨w.heap.size, 0, none⟩) (World.block_lt_of_cell? _ _ d0)).trans f0
  have f1' : w1.frozen? ⟨w.heap.size, 1, none⟩ = false := (b1.frozen (p := ⟨w.heap.size, 1, none⟩) (World.block_lt_of_cell? _ _ d1)).trans f1
  replace d0 := below_cell d0 b1
  replace d1 := below_cell d1 b1
  clear f0 f1 hd hd2 hsz
  go_wp2_with fail
  first
    | go_still_tail 7, (by kernel_rfl)
    | go_still_tail 7, (by kernel_rfl)
  change wpList _ _ _ _ _ w1.drew
  go_wp2_with fail
  have bF : Below w.heap.size w (((w1.setCell ⟨w.heap.size, 0, none⟩ (.int .i64 q1)).setCell ⟨w.heap.size, 1, none⟩ (.int .i64 q2)).drew) := (((b0.trans (b1.mono b0.size)).setCell (by simp) _).setCell (by simp) _).drew
  have k0 : (w1.setCell ⟨w.heap.size, 0, none⟩ (.int .i64 q1)).cell? ⟨w.heap.size, 0, none⟩ = some (.int .i64 q1) := by go_simp
  have k1 : ((w1.setCell ⟨w.heap.size, 0, none⟩ (.int .i64 q1)).setCell ⟨w.heap.size, 1, none⟩ (.int .i64 q2)).cell? ⟨w.heap.size, 1, none⟩ = some (.int .i64 q2) := by go_simp
  rw [E.out]
  exact bodyPost_ret (v := .agg #[.int .i64 q1, .int .i64 q2]) (by simp [results, Try.results27, go_sem, k0, k1]) rfl ⟨rfl, bF⟩
end Go.Proofs.Ytfhlooegeklpaaa
