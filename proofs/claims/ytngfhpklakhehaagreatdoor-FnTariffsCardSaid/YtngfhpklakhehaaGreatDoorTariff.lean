/-
  Tariffs: when one is valid. No condition.
-/
import Derived.Test.YtngfhpklakhehaaGreatDoorStStep
import Derived.Test.YtngfhpklakhehaaGreatDoorBasic
import Derived.Deep.RegionHeld3
namespace Go.Proofs.YtngfhpklakhehaaGreatDoor
open Go.RowKit
set_option maxHeartbeats 400000

structure Tariff where
  s : List Step
  h : Int
  e : Int
def okStep (x : Step) : Bool := inR x.g 1 5000 && inR x.p 0 100000
def linkS : Option Step → Step → Bool
  | none, _ => true
  | some y, x => decide (y.g < x.g) && decide (y.p ≤ x.p)
def stepsFrom (q : Option Step) : List Step → Bool
  | [] => true
  | x :: r => okStep x && linkS q x && stepsFrom (some x) r
def prevAt (xs : List Step) (k : Nat) : Option Step := if k = 0 then none else xs[k - 1]?
def validT (t : Tariff) : Bool := stepsFrom none t.s && inR t.s.length 1 8 && inR t.h 0 100000 && inR t.e 0 1000
theorem prevAt_succ {xs : List Step} {k : Nat} {x : Step} (h : xs[k]? = some x) : prevAt xs (k + 1) = some x := by simp [prevAt, h]

set_option maxHeartbeats 1000000 in
theorem ValidTariff_any (A : Option Addr) (n c : Nat) (xs : List Step) (h e : Int) (w : World) (B : Nat) (hB : B ≤ w.heap.size) (hn : n ≤ 2000000) (hx : Sl w B 2 encStep A n xs) :
    Calls Tryz.prog 23 #[.agg #[.slice A n c, .int .i64 h, .int .i64 e]] w fun r w' => r = .returned (.bool (validT ⟨xs, h, e⟩)) ∧ Below w.heap.size w w' := by
  have hol := hx.len
  go_enter Tryz.func23, Tryz.ntmps23
  go_wp2
  go_loopw [8] (fun i w1 => ∃ k : Nat, k ≤ n ∧ i = .int .i64 k ∧ Hid (stepsFrom none xs = stepsFrom (prevAt xs k) (xs.drop k)) ∧ Below (w.heap.size + 1) (w.alloc (.cells #[.slice A n c, .int .i64 h, .int .i64 e] 26)) w1) (fun i _ => n - (intOf i).toNat)
  case atStart => exact ⟨0, Nat.zero_le _, rfl, hid rfl, Below.refl _ _⟩
  case round =>
    obtain ⟨k, hk, rfl, he, hb2⟩ := hrel
    have hws := hb2.size
    rw [World.size_alloc] at hws
    have hb : Below w.heap.size w wr := ((Below.refl _ _).alloc (Nat.le_refl _) _).trans (hb2.mono (by omega))
    have t0 : wr.cell? ⟨w.heap.size, 0, none⟩ = some (.slice A n c) := by
      rw [hb2.cell (p := ⟨w.heap.size, 0, none⟩) (by simp)]; exact (World.cell?_alloc_at _ _ _ _ rfl).trans rfl
    have t1 : wr.cell? ⟨w.heap.size, 1, none⟩ = some (.int .i64 h) := by
      rw [hb2.cell (p := ⟨w.heap.size, 1, none⟩) (by simp)]; exact (World.cell?_alloc_at _ _ _ _ rfl).trans rfl
    have t2 : wr.cell? ⟨w.heap.size, 2, none⟩ = some (.int .i64 e) := by
      rw [hb2.cell (p := ⟨w.heap.size, 2, none⟩) (by simp)]; exact (World.cell?_alloc_at _ _ _ _ rfl).trans rfl
    have lw : w.heap.size < wr.heap.size := by omega
    by_cases hlt : k < n
    · obtain ⟨x0, x1, b, off, Hx, rfl, hbB, c0, c1⟩ := (hx.below (hb.mono hB)).atStep hlt
      have he2 := he.out
      rw [drop_at Hx.out, stepsFrom] at he2
      have lb : b < wr.heap.size := by omega
      have hb4 := hb2.alloc (by rw [← World.size_alloc]; exact hb2.size) (.cells #[.int .i64 x0, .int .i64 x1] 57)
      have hbA := hb.alloc hb.size (.cells #[.int .i64 x0, .int .i64 x1] 57)
      cases h1 : inR x0 1 5000 with
      | false =>
        have E : Hid (validT ⟨xs, h, e⟩ = false) := by simp [Hid, validT, he2, okStep, h1]
        clear he he2 hx
        go_wp2
        go_quiet ((go_at_call 53; exact Calls.quiet_of_same (within_any _ _ _ _)))
        go_wp2
        go_ret
        exact ⟨retB E.out.symm, below_drewN hbA nq⟩
      | true =>
        cases h2 : inR x1 0 100000 with
        | false =>
          have E : Hid (validT ⟨xs, h, e⟩ = false) := by simp [Hid, validT, he2, okStep, h2]
          clear he he2 hx
          go_wp2
          go_quiet ((go_at_call 53; exact Calls.quiet_of_same (within_any _ _ _ _)))
          go_wp2
          go_ret
          exact ⟨retB E.out.symm, below_drewN hbA nq⟩
        | true =>
          cases k with
          | zero =>
            have He2 : Hid (stepsFrom none xs = stepsFrom (prevAt xs (0 + 1)) (xs.drop (0 + 1))) := by rw [prevAt_succ Hx.out, he2]; simp [Hid, prevAt, linkS, okStep, h1, h2]
            clear he he2 hx
            simp only [Nat.zero_mul, Nat.add_zero] at c0 c1
            go_wp2
            go_quiet ((go_at_call 53; exact Calls.quiet_of_same (within_any _ _ _ _)))
            go_wp2
            have hb5 := below_drewN hb4 nq
            go_roundw
            all_goals first | exact ⟨0 + 1, by omega, by go_num, He2, hb5⟩ | exact ⟨⟨0 + 1, by omega, by go_num, He2, hb5⟩, by simp [intOf]; omega⟩ | (simp [intOf]; omega)
          | succ k =>
            obtain ⟨y0, y1, b', off', Hy, e', _, d0, d1⟩ := (hx.below (hb.mono hB)).atStep (i := k) (by omega)
            injection e' with e'
            injection e' with e1 e2
            subst e1 e2
            rw [prevAt_succ Hy.out] at he2
            by_cases q1 : x0 ≤ y0
            · have E : Hid (validT ⟨xs, h, e⟩ = false) := by simp [Hid, validT, he2, linkS, okStep, Int.not_lt.2 q1]
              have d1 : decide (x0 ≤ y0) = true := by simpa using q1
              clear he he2 hx
              go_wp2
              go_quiet ((go_at_call 53; exact Calls.quiet_of_same (within_any _ _ _ _)))
              go_wp2
              go_ret
              exact ⟨retB E.out.symm, below_drewN hbA nq⟩
            · have d1 : decide (x0 ≤ y0) = false := by simpa using q1
              by_cases q2 : x1 < y1
              · have E : Hid (validT ⟨xs, h, e⟩ = false) := by simp [Hid, validT, he2, linkS, okStep, Int.not_le.2 q2]
                clear he he2 hx
                go_wp2
                go_quiet ((go_at_call 53; exact Calls.quiet_of_same (within_any _ _ _ _)))
                go_wp2
                go_ret
                exact ⟨retB E.out.symm, below_drewN hbA nq⟩
              · have He2 : Hid (stepsFrom none xs = stepsFrom (prevAt xs (k + 1 + 1)) (xs.drop (k + 1 + 1))) := by rw [prevAt_succ Hx.out, he2]; simp [Hid, linkS, okStep, h1, h2, Int.not_le.1 q1, Int.not_lt.1 q2]
                clear he he2 hx
                go_wp2
                go_quiet ((go_at_call 53; exact Calls.quiet_of_same (within_any _ _ _ _)))
                go_wp2
                have hb5 := below_drewN hb4 nq
                go_roundw
                all_goals first | exact ⟨k + 1 + 1, by omega, by go_num, He2, hb5⟩ | exact ⟨⟨k + 1 + 1, by omega, by go_num, He2, hb5⟩, by simp [intOf]; omega⟩ | (simp [intOf]; omega)
    · have : k = n := by omega
      subst this
      have he2 := he.out
      rw [List.drop_of_length_le (by omega), stepsFrom] at he2
      have E : Hid (validT ⟨xs, h, e⟩ = (inR k 1 8 && inR h 0 100000 && inR e 0 1000)) := by simp [Hid, validT, he2, hol]
      clear he he2 hx
      cases h1 : inR k 1 8 <;> cases h2 : inR h 0 100000 <;> cases h3 : inR e 0 1000
      all_goals go_wp2_with (go_at_call 53; refine (within_any _ _ _ _).mono ?_; rintro r w' ⟨rfl, rfl⟩)
      all_goals go_ret
      all_goals exact ⟨retB (by rw [E.out]; simp [h1, h2, h3]), hb⟩
set_option maxHeartbeats 1000000 in
theorem l23Ok_any (gt go : Nat) (A : Option Addr) (n c : Nat) (xs : List Step) (h e : Int) (w : World) (B : Nat) (hB : B ≤ w.heap.size) (hn : n ≤ 2000000) (hx : Sl w B 2 encStep A n xs)
    (p0 : w.cell? ⟨gt, go, none⟩ = some (.slice A n c)) (p1 : w.cell? ⟨gt, go + 1, none⟩ = some (.int .i64 h)) (p2 : w.cell? ⟨gt, go + 2, none⟩ = some (.int .i64 e)) :
    Calls Tryz.prog 32 #[.pointer (some ⟨gt, go, none⟩)] w fun r w' => r = .returned (.bool (validT ⟨xs, h, e⟩)) ∧ Below w.heap.size w w' := by
  have hol := hx.len
  have lg := World.block_lt_of_cell? _ _ p0
  go_enter Tryz.func32, Tryz.ntmps32
  go_wp2
  go_loopw [3] (fun i w1 => ∃ k : Nat, k ≤ n ∧ i = .int .i64 k ∧ Hid (stepsFrom none xs = stepsFrom (prevAt xs k) (xs.drop k)) ∧ Below w.heap.size w w1) (fun i _ => n - (intOf i).toNat)
  case atStart => exact ⟨0, Nat.zero_le _, rfl, hid rfl, Below.refl _ _⟩
  case round =>
    obtain ⟨k, hk, rfl, he, hb⟩ := hrel
    have t0 := below_cell p0 hb
    have t1 := below_cell p1 hb
    have t2 := below_cell p2 hb
    have lw : gt < wr.heap.size := Nat.lt_of_lt_of_le lg hb.size
    clear p0 p1 p2
    by_cases hlt : k < n
    · obtain ⟨x0, x1, b, off, Hx, rfl, hbB, c0, c1⟩ := (hx.below (hb.mono hB)).atStep hlt
      have he2 := he.out
      rw [drop_at Hx.out, stepsFrom] at he2
      have lb : b < wr.heap.size := by have := hb.size; omega
      have hbA := hb.alloc hb.size (.cells #[.int .i64 x0, .int .i64 x1] 57)
      cases h1 : inR x0 1 5000 with
      | false =>
        have E : Hid (validT ⟨xs, h, e⟩ = false) := by simp [Hid, validT, he2, okStep, h1]
        clear he he2 hx
        go_wp2_with (go_at_call 58; refine (l00In_any _ _ _ _).mono ?_; rintro r w' ⟨rfl, rfl⟩)
        go_ret
        exact ⟨retB E.out.symm, hbA⟩
      | true =>
        cases h2 : inR x1 0 100000 with
        | false =>
          have E : Hid (validT ⟨xs, h, e⟩ = false) := by simp [Hid, validT, he2, okStep, h2]
          clear he he2 hx
          go_wp2_with (go_at_call 58; refine (l00In_any _ _ _ _).mono ?_; rintro r w' ⟨rfl, rfl⟩)
          go_ret
          exact ⟨retB E.out.symm, hbA⟩
        | true =>
          cases k with
          | zero =>
            have He2 : Hid (stepsFrom none xs = stepsFrom (prevAt xs (0 + 1)) (xs.drop (0 + 1))) := by rw [prevAt_succ Hx.out, he2]; simp [Hid, prevAt, linkS, okStep, h1, h2]
            clear he he2 hx
            simp only [Nat.zero_mul, Nat.add_zero] at c0 c1
            go_wp2_with (go_at_call 58; refine (l00In_any _ _ _ _).mono ?_; rintro r w' ⟨rfl, rfl⟩)
            go_quiet (fail)
            go_wp2
            have hb5 := below_drewN hbA nq
            go_roundw
            all_goals first | exact ⟨0 + 1, by omega, by go_num, He2, hb5⟩ | exact ⟨⟨0 + 1, by omega, by go_num, He2, hb5⟩, by simp [intOf]; omega⟩ | (simp [intOf]; omega)
          | succ k =>
            obtain ⟨y0, y1, b', off', Hy, e', _, d0, d1⟩ := (hx.below (hb.mono hB)).atStep (i := k) (by omega)
            injection e' with e'
            injection e' with e1 e2
            subst e1 e2
            rw [prevAt_succ Hy.out] at he2
            by_cases q1 : x0 ≤ y0
            · have E : Hid (validT ⟨xs, h, e⟩ = false) := by simp [Hid, validT, he2, linkS, okStep, Int.not_lt.2 q1]
              have d1 : decide (x0 ≤ y0) = true := by simpa using q1
              clear he he2 hx
              go_wp2_with (go_at_call 58; refine (l00In_any _ _ _ _).mono ?_; rintro r w' ⟨rfl, rfl⟩)
              go_quiet (fail)
              go_wp2
              go_ret
              exact ⟨retB E.out.symm, below_drewN hbA nq⟩
            · have d1 : decide (x0 ≤ y0) = false := by simpa using q1
              by_cases q2 : x1 < y1
              · have E : Hid (validT ⟨xs, h, e⟩ = false) := by simp [Hid, validT, he2, linkS, okStep, Int.not_le.2 q2]
                clear he he2 hx
                go_wp2_with (go_at_call 58; refine (l00In_any _ _ _ _).mono ?_; rintro r w' ⟨rfl, rfl⟩)
                go_quiet (fail)
                go_wp2
                go_ret
                exact ⟨retB E.out.symm, below_drewN hbA nq⟩
              · have He2 : Hid (stepsFrom none xs = stepsFrom (prevAt xs (k + 1 + 1)) (xs.drop (k + 1 + 1))) := by rw [prevAt_succ Hx.out, he2]; simp [Hid, linkS, okStep, h1, h2, Int.not_le.1 q1, Int.not_lt.1 q2]
                clear he he2 hx
                go_wp2_with (go_at_call 58; refine (l00In_any _ _ _ _).mono ?_; rintro r w' ⟨rfl, rfl⟩)
                go_quiet (fail)
                go_wp2
                have hb5 := below_drewN hbA nq
                go_roundw
                all_goals first | exact ⟨k + 1 + 1, by omega, by go_num, He2, hb5⟩ | exact ⟨⟨k + 1 + 1, by omega, by go_num, He2, hb5⟩, by simp [intOf]; omega⟩ | (simp [intOf]; omega)
    · have : k = n := by omega
      subst this
      have he2 := he.out
      rw [List.drop_of_length_le (by omega), stepsFrom] at he2
      have E : Hid (validT ⟨xs, h, e⟩ = (inR k 1 8 && inR h 0 100000 && inR e 0 1000)) := by simp [Hid, validT, he2, hol]
      clear he he2 hx
      cases h1 : inR k 1 8 <;> cases h2 : inR h 0 100000 <;> cases h3 : inR e 0 1000
      all_goals go_wp2_with (go_at_call 58; refine (l00In_any _ _ _ _).mono ?_; rintro r w' ⟨rfl, rfl⟩)
      all_goals go_ret
      all_goals exact ⟨retB (by rw [E.out]; simp [h1, h2, h3]), hb⟩
theorem specValidTariff_any (A : Option Addr) (n c : Nat) (xs : List Step) (h e : Int) (w : World) (B : Nat) (hB : B ≤ w.heap.size) (hn : n ≤ 2000000) (hx : Sl w B 2 encStep A n xs) :
    Calls Tryz.prog 24 #[.agg #[.slice A n c, .int .i64 h, .int .i64 e]] w fun r w' => r = .returned (.bool (validT ⟨xs, h, e⟩)) ∧ Below w.heap.size w w' := by
  have hc := l23Ok_any w.heap.size 0 A n c xs h e (w.alloc (.cells #[.slice A n c, .int .i64 h, .int .i64 e] 26)) B (by simp; omega) hn (hx.alloc hB _)
    ((World.cell?_alloc_at _ _ _ _ rfl).trans rfl) ((World.cell?_alloc_at _ _ _ _ rfl).trans rfl) ((World.cell?_alloc_at _ _ _ _ rfl).trans rfl)
  clear hx
  go_enter Tryz.func24, Tryz.ntmps24
  go_wp2_with (go_at_call 32; refine hc.mono ?_; rintro r w1 ⟨rfl, b1⟩)
  go_ret
  exact ⟨rfl, ((Below.refl _ _).alloc (Nat.le_refl _) _).trans (b1.mono (by simp))⟩
end Go.Proofs.YtngfhpklakhehaaGreatDoor
