/-
  Items of a queue, second part: their copies, and the reference's test of a queue. No condition.
-/
import Derived.Test.YtfhlooegeklpaaaItem
namespace Go.Proofs.Ytfhlooegeklpaaa
open Go.RowKit
set_option maxHeartbeats 400000

theorem l22Ok_any (A : Option Addr) (n c : Nat) (xs : List Item) (w : World) (B : Nat) (hB : B ≤ w.heap.size) (hn : n ≤ 2000000) (hx : Sl w B 3 encItem A n xs) :
    Calls Try.prog 24 #[.slice A n c] w fun e w' => e = .returned (.bool (validQ xs)) ∧ Below w.heap.size w w' := by
  go_enter Try.func24, Try.ntmps24
  go_wp2
  go_loopw [3] (fun i w1 => ∃ k : Nat, k ≤ n ∧ i = .int .i64 k ∧ Hid (xs.all okItem = (xs.drop k).all okItem) ∧ Below w.heap.size w w1) (fun i _ => n - (intOf i).toNat)
  case atStart => exact ⟨0, Nat.zero_le _, rfl, hid rfl, Below.refl _ _⟩
  case round =>
    obtain ⟨k, hk, rfl, he, hb⟩ := hrel
    by_cases hlt : k < n
    · obtain ⟨x, y, z, b, off, Hx, rfl, hbB, c0, c1, c2⟩ := (hx.below (hb.mono hB)).item hlt
      have he2 := he.out
      rw [drop_at Hx.out, List.all_cons] at he2
      have hv : validQ xs = (decide (n ≤ 12) && xs.all okItem) := by simp [validQ, hx.len]
      clear hx
      cases h1 : inR x 0 10000 <;> cases h2 : inR y 1 1000 <;> cases h3 : inR z 0 9
      all_goals
        have He2 := hid he2
        have Hv := hid hv
        clear he2 hv he
        go_wp2_with (go_at_call 25; refine (l00In_any _ _ _ _).mono ?_; rintro e w' ⟨rfl, rfl⟩)
      all_goals first
        | (go_ret; exact ⟨retB (by rw [Hv.out, He2.out]; simp [okItem, h1, h2, h3]), hb⟩)
        | (have He3 : Hid (xs.all okItem = (xs.drop (k + 1)).all okItem) := by rw [He2.out]; simp [Hid, okItem, h1, h2, h3]
           go_roundw
           all_goals first | exact ⟨k + 1, by omega, by go_num, He3, hb⟩ | exact ⟨⟨k + 1, by omega, by go_num, He3, hb⟩, by simp [intOf]; omega⟩ | (simp [intOf]; omega))
    · have : k = n := by omega
      subst this
      have he2 := he.out
      rw [List.drop_of_length_le (by rw [hx.len]; omega), List.all_nil] at he2
      have hv : validQ xs = decide (k ≤ 12) := by simp [validQ, hx.len, he2]
      have Hv := hid hv
      clear hx he he2 hv
      go_wp2
      go_ret
      exact ⟨retB (by rw [Hv.out]; simp; try omega), hb⟩

theorem item_info : (Try.prog.info? 43).map (fun i => (i.zero, i.size, i.bytes)) = some (some (.agg #[.int .i64 0, .int .i64 0, .int .i64 0]), 3, 24) := by kernel_rfl

theorem toItemS_any (A : Option Addr) (n c : Nat) (xs : List Item) (w : World) (B : Nat) (hB : B ≤ w.heap.size) (hn : n ≤ 2000000) (hx : Sl w B 3 encItem A n xs) :
    Calls Try.prog 8 #[.slice A n c] w fun e w' => ∃ g, e = .returned (.slice (some ⟨g, 0, none⟩) n n) ∧ w'.ownsRow w.heap.size 43 3 (.slice (some ⟨g, 0, none⟩) n n) n (xs.flatMap encItem) ∧ Below w.heap.size w w' := by
  obtain ⟨i0, hi, hz0, hz1, hz2⟩ := info_parts item_info
  have hmk : ∀ u : World, (Instr.makeSlice 28 (.int .i64 (n : Int)) (.int .i64 (n : Int))).run Try.prog u =
      .ok (.slice (some ⟨u.heap.size, 0, none⟩) n n) (u.alloc (.cells (madeCells #[.int .i64 0, .int .i64 0, .int .i64 0] (n * 3)) 43)) := fun u => by
    have h := run_make (P := Try.prog) u 28 43 i0 _ Try.underlying28 hi hz0 .i64 .i64 (n : Int) (n : Int) (by omega) (Int.le_refl _) (by rw [hz2]; omega) (by omega)
    simpa [hz1, Value.cells] using h
  clear hi hz0 hz1 hz2
  have hown0 : ((w.alloc (.cells (madeCells #[.int .i64 0, .int .i64 0, .int .i64 0] (n * 3)) 43))).ownsRow w.heap.size 43 3 (.slice (some ⟨w.heap.size, 0, none⟩) n n) n (madeCells #[.int .i64 0, .int .i64 0, .int .i64 0] (n * 3)).toList :=
    World.ownsRow_lit w _ n (Nat.le_refl _) (by simp only [maxLen]; omega) (size_madeCells _ _)
  go_enter Try.func8, Try.ntmps8
  go_wp2
  go_loopw [4] (fun i w1 => ∃ k l, k ≤ n ∧ i = .int .i64 (k : Nat) ∧ w1.ownsRow w.heap.size 43 3 (.slice (some ⟨w.heap.size, 0, none⟩) n n) n l ∧ Pre l ((xs.take k).flatMap encItem) ∧ Below w.heap.size w w1) (fun i _ => n - (intOf i).toNat)
  case atStart => exact ⟨0, _, Nat.zero_le _, rfl, hown0, Pre.nil _, (Below.refl _ _).alloc (Nat.le_refl _) _⟩
  case round =>
    obtain ⟨k, l, hk, rfl, hown, hpre, hb⟩ := hrel
    clear hown0 hmk
    by_cases hlt : k < n
    · obtain ⟨x, y, z, b, off, Hx, rfl, hbB, c0, c1, c2⟩ := (hx.below (hb.mono hB)).item hlt
      have f0 := fun W hB => (own_at (w' := W) hown hB (k * 3) (by omega)).2
      have f1 := fun W hB => (own_at (w' := W) hown hB (k * 3 + 1) (by omega)).2
      have f2 := fun W hB => (own_at (w' := W) hown hB (k * 3 + 2) (by omega)).2
      have e0 := fun W hB => (own_at (w' := W) hown hB (k * 3) (by omega)).1
      have e1 := fun W hB => (own_at (w' := W) hown hB (k * 3 + 1) (by omega)).1
      have e2 := fun W hB => (own_at (w' := W) hown hB (k * 3 + 2) (by omega)).1
      go_wp2_with (go_at_call 28; refine (toItem_any _ _ _ _).mono ?_; rintro e w' ⟨rfl, hbb⟩; replace f0 := f0 _ hbb; replace f1 := f1 _ hbb; replace f2 := f2 _ hbb; obtain ⟨v0, e0⟩ := e0 _ hbb; obtain ⟨v1, e1⟩ := e1 _ hbb; obtain ⟨v2, e2⟩ := e2 _ hbb)
      go_roundw
      case measure => simp [intOf]; omega
      case rel =>
        have hP : ((xs.take k).flatMap encItem).length = k * 3 := by rw [flatMap_len encItem_len, List.length_take_of_le (by rw [hx.len]; omega)]
        have s1 := own_set (own_below hown hbb) hpre (j := k * 3) hP.symm (by omega) (.int .i64 x)
        have s2 := own_set s1.1 s1.2 (j := k * 3 + 1) (by simp [hP]) (by omega) (.int .i64 y)
        have s3 := own_set s2.1 s2.2 (j := k * 3 + 2) (by simp [hP]) (by omega) (.int .i64 z)
        refine ⟨k + 1, _, by omega, by go_num, s3.1, ?_, ?_⟩
        · rw [take_at Hx.out, List.flatMap_append]
          have := s3.2
          simpa [encItem] using this
        · have hb2 := hb.trans (hbb.mono hb.size)
          repeat (first | with_reducible assumption | with_reducible exact Below.refl _ _ | with_reducible refine bl_drew ?_ | with_reducible refine bl_drewN ?_ | ((with_reducible refine bl_set ?_ ?_); focus (first | (simp; done) | (simp; omega) | omega)) | ((with_reducible refine bl_alloc ?_ ?_); focus (first | (simp; done) | (simp; omega) | omega)))
    · have : k = n := by omega
      subst this
      have hP : (xs.flatMap encItem).length = k * 3 := by rw [flatMap_len encItem_len, hx.len]
      rw [List.take_of_length_le (by rw [hx.len]; omega)] at hpre
      have e := hpre.all (by rw [hown.1, hP])
      subst e
      clear hpre hP
      go_wp2
      go_ret
      exact ⟨_, rfl, hown, hb⟩
end Go.Proofs.Ytfhlooegeklpaaa
