/-
  Lists of Points that are alike. No condition.
-/
import Derived.Test.YtehjfajmnciiaaaDoorStPoint
namespace Go.Proofs.YtehjfajmnciiaaaDoor
open Go.RowKit
set_option maxHeartbeats 400000

theorem diffPoint (x0 y0 : Int) (x1 y1 : Int) : (x0 = y0 ∧ x1 = y1) ∨ (x0 ≠ y0) ∨ (x0 = y0 ∧ x1 ≠ y1) := by
  by_cases h0 : x0 = y0
  rotate_left
  · exact .inr (.inl h0)
  by_cases h1 : x1 = y1
  · exact .inl ⟨h0, h1⟩
  · exact .inr (.inr (⟨h0, h1⟩))
theorem firstPoint {x0 y0 : Int} {x1 y1 : Int} {xs ys : List Point} : ((⟨x0, x1⟩ : Point) :: xs = ⟨y0, y1⟩ :: ys) = ((x0 = y0 ∧ x1 = y1) ∧ xs = ys) := by simp
set_option maxHeartbeats 1000000 in
theorem equalPoint_any (A : Option Addr) (n c : Nat) (A' : Option Addr) (n' c' : Nat) (xs ys : List Point) (w : World) (B : Nat) (hB : B ≤ w.heap.size) (hn : n ≤ 2000000) (hn' : n' ≤ 2000000) (hx : Sl w B 2 encPoint A n xs) (hy : Sl w B 2 encPoint A' n' ys) :
    Calls Tryd.prog 53 #[.slice A n c, .slice A' n' c'] w fun r w' => r = .returned (.bool (decide (xs = ys))) ∧ Below w.heap.size w w' := by
  have hxl := hx.len
  have hyl := hy.len
  by_cases hnn : n = n'
  · subst hnn
    go_enter Tryd.func53, Tryd.ntmps53
    go_wp2
    go_loopw [13] (fun i w1 => ∃ k : Nat, k ≤ n ∧ i = .int .i64 k ∧ Hid ((xs = ys) = (xs.drop k = ys.drop k)) ∧ Below w.heap.size w w1) (fun i _ => n - (intOf i).toNat)
    case atStart => exact ⟨0, Nat.zero_le _, rfl, hid rfl, Below.refl _ _⟩
    case round =>
      obtain ⟨k, hk, rfl, he, hb⟩ := hrel
      by_cases hlt : k < n
      · obtain ⟨x0, x1, b, off, Hx, rfl, hbB, c0, c1⟩ := (hx.below (hb.mono hB)).atPoint hlt
        obtain ⟨y0, y1, b', off', Hy, rfl, hbB', d0, d1⟩ := (hy.below (hb.mono hB)).atPoint hlt
        have he2 := he.out
        rw [drop_at Hx.out, drop_at Hy.out, firstPoint] at he2
        have lb : b < wr.heap.size := by have := hb.size; omega
        have lb' : b' < wr.heap.size := by have := hb.size; omega
        clear he hx hy Hx Hy
        rcases diffPoint x0 y0 x1 y1 with q | q | ⟨rfl, q⟩
        · have He2 : Hid ((xs = ys) = (xs.drop (k + 1) = ys.drop (k + 1))) := by rw [he2]; simp [Hid, q]
          obtain ⟨rfl, rfl⟩ := q
          clear he2
          go_wp2
          go_quiet (fail)
          go_wp2
          have hb5 := below_drewN hb nq
          go_roundw
          all_goals first | exact ⟨k + 1, by omega, by go_num, He2, hb5⟩ | exact ⟨⟨k + 1, by omega, by go_num, He2, hb5⟩, by simp [intOf]; omega⟩ | (simp [intOf]; omega)
        · have E : Hid (decide (xs = ys) = false) := by rw [Hid, decide_eq_false_iff_not, he2]; exact fun h => q h.1.1
          have z0 : decide (x0 = y0) = false := by simpa using q
          have z1 : (x0 == y0) = false := by simpa using q
          clear he2 q
          go_wp2
          go_quiet (fail)
          go_wp2
          go_ret
          exact ⟨retB E.out.symm, below_drewN hb nq⟩
        · have E : Hid (decide (xs = ys) = false) := by rw [Hid, decide_eq_false_iff_not, he2]; exact fun h => q h.1.2
          have z0 : decide (x1 = y1) = false := by simpa using q
          have z1 : (x1 == y1) = false := by simpa using q
          clear he2 q
          go_wp2
          go_quiet (fail)
          go_wp2
          go_ret
          exact ⟨retB E.out.symm, below_drewN hb nq⟩
      · have : k = n := by omega
        subst this
        have E : Hid (decide (xs = ys) = true) := by
          have he2 := he.out
          rw [List.drop_of_length_le (by omega), List.drop_of_length_le (by omega)] at he2
          rw [Hid, decide_eq_true_iff, he2]
        clear he
        go_wp2
        go_ret
        exact ⟨retB E.out.symm, hb⟩
  · have E : Hid (decide (xs = ys) = false) := by
      rw [Hid, decide_eq_false_iff_not]; intro h; subst h; exact hnn (hxl.symm.trans hyl)
    clear hx hy
    go_enter Tryd.func53, Tryd.ntmps53
    go_wp2
    go_ret
    exact ⟨retB E.out.symm, Below.refl _ _⟩
end Go.Proofs.YtehjfajmnciiaaaDoor
