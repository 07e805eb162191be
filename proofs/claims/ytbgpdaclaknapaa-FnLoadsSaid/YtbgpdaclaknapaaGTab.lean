/-
  Copies, comparisons and marks of lists and tables of numbers. No condition.
-/
import Derived.Test.YtbgpdaclaknapaaGPlain
import Derived.Test.YtbgpdaclaknapaaOpen
import Derived.Deep.RegionHeld3
namespace Go.Proofs.Ytbgpdaclaknapaa
open Go.RowKit
set_option maxHeartbeats 400000

def szv (left : Int) (n : Nat) : Int := if left < n then -1 else left - n
theorem toInt64S_any (A : Option Addr) (n c : Nat) (xs : List Int) (w : World) (B : Nat) (hB : B ≤ w.heap.size) (hn : n ≤ 2000000) (hx : Sl w B 1 encI A n xs) :
    Calls Try.prog 14 #[.slice A n c] w fun e w' => ∃ g, e = .returned (.slice (some ⟨g, 0, none⟩) n n) ∧ w'.ownsRow w.heap.size 2 1 (.slice (some ⟨g, 0, none⟩) n n) n (xs.flatMap encI) ∧ Below w.heap.size w w' := by
  obtain ⟨i0, hi, hz0, hz1, hz2⟩ := info_parts int_info
  have hmk : ∀ u : World, (Instr.makeSlice 35 (.int .i64 (n : Int)) (.int .i64 (n : Int))).run Try.prog u =
      .ok (.slice (some ⟨u.heap.size, 0, none⟩) n n) (u.alloc (.cells (madeCells #[.int .i64 0] n) 2)) := fun u => by
    have h := run_make (P := Try.prog) u 35 2 i0 _ Try.underlying35 hi hz0 .i64 .i64 (n : Int) (n : Int) (by omega) (Int.le_refl _) (by rw [hz2]; omega) (by omega)
    simpa [hz1, Value.cells] using h
  clear hi hz0 hz1 hz2
  have hown0 : ((w.alloc (.cells (madeCells #[.int .i64 0] n) 2))).ownsRow w.heap.size 2 1 (.slice (some ⟨w.heap.size, 0, none⟩) n n) n (madeCells #[.int .i64 0] n).toList :=
    World.ownsRow_lit w _ n (Nat.le_refl _) (by simp only [maxLen]; omega) (by simp [size_madeCells])
  go_enter Try.func14, Try.ntmps14
  go_wp2
  go_loopw [4] (fun i w1 => ∃ k l, k ≤ n ∧ i = .int .i64 (k : Nat) ∧ w1.ownsRow w.heap.size 2 1 (.slice (some ⟨w.heap.size, 0, none⟩) n n) n l ∧ Pre l ((xs.take k).flatMap encI) ∧ Below w.heap.size w w1) (fun i _ => n - (intOf i).toNat)
  case atStart => exact ⟨0, _, Nat.zero_le _, rfl, hown0, Pre.nil _, (Below.refl _ _).alloc (Nat.le_refl _) _⟩
  case round =>
    obtain ⟨k, l, hk, rfl, hown, hpre, hb⟩ := hrel
    clear hown0 hmk
    by_cases hlt : k < n
    · obtain ⟨x0, b, off, Hx, rfl, hbB, c0⟩ := (hx.below (hb.mono hB)).int hlt
      obtain ⟨⟨u0, e0⟩, f0⟩ := own_at hown (Below.refl _ _) k (by omega)
      go_wp2
      go_roundw
      case measure => simp [intOf]; omega
      case rel =>
        have hP : ((xs.take k).flatMap encI).length = k := by rw [flatMap_len encI_len, List.length_take_of_le (by rw [hx.len]; omega), Nat.mul_one]
        have s1 := own_set hown hpre (j := k) hP.symm (by omega) (.int .i64 x0)
        refine ⟨k + 1, _, by omega, by go_num, s1.1, ?_, ?_⟩
        · rw [take_at Hx.out, List.flatMap_append]
          have := s1.2
          simpa [encI] using this
        · repeat (first | with_reducible assumption | with_reducible exact Below.refl _ _ | with_reducible refine bl_drew ?_ | with_reducible refine bl_drewN ?_ | ((with_reducible refine bl_set ?_ ?_); focus (first | (simp; done) | (simp; omega) | omega)) | ((with_reducible refine bl_alloc ?_ ?_); focus (first | (simp; done) | (simp; omega) | omega)))
    · have : k = n := by omega
      subst this
      have hP : (xs.flatMap encI).length = k := by rw [flatMap_len encI_len, hx.len, Nat.mul_one]
      rw [List.take_of_length_le (by rw [hx.len]; omega)] at hpre
      have e := hpre.all (by rw [hown.1, hP, Nat.mul_one])
      subst e
      clear hpre hP
      go_wp2
      go_ret
      exact ⟨_, rfl, hown, hb⟩
end Go.Proofs.Ytbgpdaclaknapaa
