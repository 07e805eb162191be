/-
  Lists that rise, with numbers in a range: the program's function and the reference's. No condition.
-/
import Derived.Test.YtehjfajmnciiaaaDoorInt
import Derived.Test.YtehjfajmnciiaaaDoorBasic
import Derived.OwnWalk
namespace Go.Proofs.YtehjfajmnciiaaaDoor
open Go.RowKit
set_option maxHeartbeats 400000

def linkI : Option Int → Int → Bool
  | none, _ => true
  | some y, x => decide (y < x)
def riseF (lo hi : Int) (q : Option Int) : List Int → Bool
  | [] => true
  | x :: r => inR x lo hi && linkI q x && riseF lo hi (some x) r
def prevI (xs : List Int) (k : Nat) : Option Int := if k = 0 then none else xs[k - 1]?
theorem prevI_succ {xs : List Int} {k : Nat} {x : Int} (h : xs[k]? = some x) : prevI xs (k + 1) = some x := by simp [prevI, h]
theorem riseF_mem {lo hi : Int} : ∀ (xs : List Int) (q : Option Int), riseF lo hi q xs = true → ∀ x ∈ xs, lo ≤ x ∧ x ≤ hi := by
  intro xs
  induction xs with
  | nil => intro q _ x hx; simp at hx
  | cons y r ih =>
    intro q h x hx
    simp only [riseF, Bool.and_eq_true] at h
    rcases List.mem_cons.1 hx with rfl | hx
    · have := h.1.1; simp [inR] at this; exact this
    · exact ih _ h.2 x hx
set_option maxHeartbeats 1000000 in
theorem l00Rises_any (A : Option Addr) (n c : Nat) (xs : List Int) (lo hi : Int) (w : World) (B : Nat) (hB : B ≤ w.heap.size) (hn : n ≤ 2000000) (hx : Sl w B 1 encI A n xs) :
    Calls Tryd.prog 46 #[.slice A n c, .int .i64 lo, .int .i64 hi] w fun r w' => r = .returned (.bool (riseF lo hi none xs)) ∧ Below w.heap.size w w' := by
  have hol := hid hx.len
  go_enter Tryd.func46, Tryd.ntmps46
  go_wp2
  go_loopw [7] (fun i w1 => ∃ k : Nat, k ≤ n ∧ i = .int .i64 k ∧ Hid (riseF lo hi none xs = riseF lo hi (prevI xs k) (xs.drop k)) ∧ Below w.heap.size w w1) (fun i _ => n - (intOf i).toNat)
  case atStart => exact ⟨0, Nat.zero_le _, rfl, hid rfl, Below.refl _ _⟩
  case round =>
    obtain ⟨k, hk, rfl, he, hb⟩ := hrel
    by_cases hlt : k < n
    · obtain ⟨x, b, off, Hx, rfl, hbB, c0⟩ := (hx.below (hb.mono hB)).int hlt
      have he2 := he.out
      rw [drop_at Hx.out, riseF] at he2
      have hi1 := l00In_any x lo hi
      have i0 : (0 : Int) ≤ (k : Int) := by omega
      have i1 : (k : Int) < (n : Int) := by omega
      cases h1 : inR x lo hi with
      | false =>
        have E : Hid (riseF lo hi none xs = false) := by simp [Hid, he2, h1]
        rw [h1] at hi1
        clear he he2 hx h1
        go_wp2_with fail
        go_quiet ((go_at_call 50; exact Calls.quiet_of_same (hi1 _)))
        go_wp2_with fail
        go_ret
        exact ⟨retB E.out.symm, below_drewN hb nq⟩
      | true =>
        rw [h1] at hi1
        cases k with
        | zero =>
          have He2 : Hid (riseF lo hi none xs = riseF lo hi (prevI xs (0 + 1)) (xs.drop (0 + 1))) := by rw [prevI_succ Hx.out, he2, h1]; simp [Hid, prevI, linkI]
          simp only [Nat.add_zero] at c0
          clear he he2 hx h1 i0 i1
          have i1 : (0 : Int) < (n : Int) := by omega
          go_wp2_with fail
          go_quiet ((go_at_call 50; exact Calls.quiet_of_same (hi1 _)))
          have hb5 := below_drewN hb nq
          go_wp2_with fail
          go_roundw
          all_goals first | exact ⟨0 + 1, by omega, by go_num, He2, hb5⟩ | exact ⟨⟨0 + 1, by omega, by go_num, He2, hb5⟩, by simp [intOf]; omega⟩ | (simp [intOf]; omega)
        | succ k =>
          obtain ⟨y, b', off', Hy, e', _, d0⟩ := (hx.below (hb.mono hB)).int (i := k) (by omega)
          injection e' with e'
          injection e' with e1 e2
          subst e1 e2
          rw [prevI_succ Hy.out] at he2
          have hW : IntKind.i64.wrap ((k : Int) + 1 - 1) = (k : Int) := by rw [show (k : Int) + 1 - 1 = k by omega]; exact IntWalk.i64_in _ (by omega)
          have i2 : (0 : Int) ≤ (k : Int) := by omega
          have i3 : (k : Int) < (n : Int) := by omega
          have i4 : (0 : Int) < (k : Int) + 1 := by omega
          by_cases q1 : x ≤ y
          · have E : Hid (riseF lo hi none xs = false) := by rw [Hid, he2]; simp [linkI, Int.not_lt.2 q1]
            have d1 : decide (x ≤ y) = true := by simpa using q1
            clear he he2 hx h1
            go_wp2_with fail
            go_quiet ((go_at_call 50; exact Calls.quiet_of_same (hi1 _)))
            go_wp2_with fail
            go_ret
            exact ⟨retB E.out.symm, below_drewN hb nq⟩
          · have d1 : decide (x ≤ y) = false := by simpa using q1
            have He2 : Hid (riseF lo hi none xs = riseF lo hi (prevI xs (k + 1 + 1)) (xs.drop (k + 1 + 1))) := by rw [prevI_succ Hx.out, he2, h1]; simp [Hid, linkI, Int.not_le.1 q1]
            clear he he2 hx h1
            go_wp2_with fail
            go_quiet ((go_at_call 50; exact Calls.quiet_of_same (hi1 _)))
            have hb5 := below_drewN hb nq
            go_wp2_with fail
            go_roundw
            all_goals first | exact ⟨k + 1 + 1, by omega, by go_num, He2, hb5⟩ | exact ⟨⟨k + 1 + 1, by omega, by go_num, He2, hb5⟩, by simp [intOf]; omega⟩ | (simp [intOf]; omega)
    · have : k = n := by omega
      subst this
      have he2 := he.out
      rw [List.drop_of_length_le (by rw [hol.out]; omega), riseF] at he2
      have E := hid he2
      clear he he2 hx
      go_wp2
      go_ret
      exact ⟨retB E.out.symm, hb⟩
set_option maxHeartbeats 1000000 in
theorem isIncreasing_any (A : Option Addr) (n c : Nat) (xs : List Int) (lo hi : Int) (w : World) (B : Nat) (hn : n ≤ 2000000) (hx : Sl w B 1 encI A n xs) :
    Calls Tryd.prog 44 #[.slice A n c, .int .i64 lo, .int .i64 hi] w fun r w' => r = .returned (.bool (riseF lo hi none xs)) ∧ w' = w := by
  have hol := hid hx.len
  go_enter Tryd.func44, Tryd.ntmps44
  go_wp2
  go_loopw [7, 8, 11] (fun _ _ i w1 => ∃ k : Nat, k ≤ n ∧ i = .int .i64 k ∧ Hid (riseF lo hi none xs = riseF lo hi (prevI xs k) (xs.drop k)) ∧ w1 = w) (fun _ _ i _ => n - (intOf i).toNat)
  case atStart => exact ⟨0, Nat.zero_le _, rfl, hid rfl, rfl⟩
  case round =>
    obtain ⟨k, hk, rfl, he, rfl⟩ := hrel
    by_cases hlt : k < n
    · obtain ⟨x, b, off, Hx, rfl, hbB, c0⟩ := hx.int hlt
      have he2 := he.out
      rw [drop_at Hx.out, riseF] at he2
      have hi1 := within_any x lo hi
      cases h1 : inR x lo hi with
      | false =>
        have E : Hid (riseF lo hi none xs = false) := by simp [Hid, he2, h1]
        rw [h1] at hi1
        clear he he2 hx h1
        go_wp2_with (go_at_call 48; refine (hi1 _).mono ?_; rintro e w' ⟨rfl, rfl⟩)
        go_ret
        exact ⟨retB E.out.symm, rfl⟩
      | true =>
        rw [h1] at hi1
        cases k with
        | zero =>
          have He2 : Hid (riseF lo hi none xs = riseF lo hi (prevI xs (0 + 1)) (xs.drop (0 + 1))) := by rw [prevI_succ Hx.out, he2, h1]; simp [Hid, prevI, linkI]
          simp only [Nat.add_zero] at c0
          clear he he2 hx h1
          go_wp2_with (go_at_call 48; refine (hi1 _).mono ?_; rintro e w' ⟨rfl, rfl⟩)
          go_roundw
          all_goals first | exact ⟨0 + 1, by omega, by go_num, He2, by trivial⟩ | exact ⟨⟨0 + 1, by omega, by go_num, He2, by trivial⟩, by simp [intOf]; omega⟩ | (simp [intOf]; omega)
        | succ k =>
          obtain ⟨y, b', off', Hy, e', _, d0⟩ := hx.int (i := k) (by omega)
          injection e' with e'
          injection e' with e1 e2
          subst e1 e2
          rw [prevI_succ Hy.out] at he2
          by_cases q1 : x ≤ y
          · have E : Hid (riseF lo hi none xs = false) := by rw [Hid, he2]; simp [linkI, Int.not_lt.2 q1]
            clear he he2 hx h1
            go_wp2_with (go_at_call 48; refine (hi1 _).mono ?_; rintro e w' ⟨rfl, rfl⟩)
            go_ret
            exact ⟨retB E.out.symm, rfl⟩
          · have He2 : Hid (riseF lo hi none xs = riseF lo hi (prevI xs (k + 1 + 1)) (xs.drop (k + 1 + 1))) := by rw [prevI_succ Hx.out, he2, h1]; simp [Hid, linkI, Int.not_le.1 q1]
            clear he he2 hx h1
            go_wp2_with (go_at_call 48; refine (hi1 _).mono ?_; rintro e w' ⟨rfl, rfl⟩)
            go_roundw
            all_goals first | exact ⟨k + 1 + 1, by omega, by go_num, He2, by trivial⟩ | exact ⟨⟨k + 1 + 1, by omega, by go_num, He2, by trivial⟩, by simp [intOf]; omega⟩ | (simp [intOf]; omega)
    · have : k = n := by omega
      subst this
      have he2 := he.out
      rw [List.drop_of_length_le (by rw [hol.out]; omega), riseF] at he2
      have E := hid he2
      clear he he2 hx
      go_wp2
      go_ret
      exact ⟨retB E.out.symm, rfl⟩
end Go.Proofs.YtehjfajmnciiaaaDoor
