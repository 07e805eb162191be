/-
  What a carrier costs: the parts of both sides. No condition.
-/
import Derived.Test.YtngfhpklakhehaaGreatDoorTariff2
namespace Go.Proofs.YtngfhpklakhehaaGreatDoor
open Go.RowKit
set_option maxHeartbeats 400000

/-- the place of the first step that bears the metres, -1 for none -/
def stepAt (m : Int) : List Step → Nat → Int
  | [], _ => -1
  | x :: r, k => if m ≤ x.g then k else stepAt m r (k + 1)
theorem stepAt_some {m : Int} {xs : List Step} {k0 : Nat} : stepAt m xs k0 = -1 ∨ ∃ j x, xs[j]? = some x ∧ stepAt m xs k0 = ((k0 + j : Nat) : Int) := by
  induction xs generalizing k0 with
  | nil => exact .inl rfl
  | cons x r ih =>
    unfold stepAt
    split
    · exact .inr ⟨0, x, rfl, rfl⟩
    · rcases ih (k0 := k0 + 1) with h | ⟨j, y, hj, h⟩
      · exact .inl h
      · exact .inr ⟨j + 1, y, hj, by rw [h]; congr 1; omega⟩
def upTo (a : Int) : Int := (a + 99).tdiv 100
theorem upTo_in {a b : Int} (h0 : 0 ≤ a) (h1 : a ≤ 100 * b) : 0 ≤ upTo a ∧ upTo a ≤ b := by
  unfold upTo
  rw [Int.tdiv_eq_ediv_of_nonneg (by omega)]
  omega
def wholeP (x : Step) (h e g : Int) (b : Bool) : Int := if b then upTo ((x.p + h * upTo g) * (100 + e)) else x.p + h * upTo g

theorem roundedUp_any (a b : Int) (w : World) (h0 : 0 ≤ a) (h1 : a ≤ 1000000000000) (hb0 : 1 ≤ b) (hb1 : b ≤ 1000) :
    Calls Tryz.prog 57 #[.int .i64 a, .int .i64 b] w fun r w' => r = .returned (.int .i64 ((a + b - 1).tdiv b)) ∧ w' = w := by
  have hq : 0 ≤ (a + b - 1).tdiv b ∧ (a + b - 1).tdiv b ≤ a + b - 1 := by
    rw [Int.tdiv_eq_ediv_of_nonneg (by omega)]
    exact ⟨Int.ediv_nonneg (by omega) (by omega), Int.ediv_le_self _ (by omega)⟩
  have hbz : ¬ b = 0 := by omega
  go_enter Tryz.func57, Tryz.ntmps57
  go_wp2
  go_ret
  exact ⟨rfl, rfl⟩
theorem costTest_any (x0 x1 m : Int) (gm go : Nat) (w : World) (hm : w.cell? ⟨gm, go, none⟩ = some (.int .i64 m)) :
    Calls Tryz.prog 56 #[.agg #[.int .i64 x0, .int .i64 x1], .pointer (some ⟨gm, go, none⟩)] w fun r w' => r = .returned (.bool (decide (m ≤ x0))) ∧ Below w.heap.size w w' := by
  have lm := World.block_lt_of_cell? _ _ hm
  simp only at lm
  go_enter Tryz.func56, Tryz.ntmps56
  go_wp2
  go_ret
  exact ⟨retB (by simp), (Below.refl _ _).alloc (Nat.le_refl _) _⟩
theorem stepIndex_any (A : Option Addr) (n c : Nat) (xs : List Step) (m : Int) (gm go : Nat) (w : World) (B : Nat) (hB : B ≤ w.heap.size) (hn : n ≤ 2000000) (hx : Sl w B 2 encStep A n xs) (hm : w.cell? ⟨gm, go, none⟩ = some (.int .i64 m)) :
    Calls Tryz.prog 55 #[.slice A n c, .func (.func 56) #[] #[.pointer (some ⟨gm, go, none⟩)]] w fun r w' => r = .returned (.int .i64 (stepAt m xs 0)) ∧ Below w.heap.size w w' := by
  have lm := World.block_lt_of_cell? _ _ hm
  simp only at lm
  go_enter Tryz.func55, Tryz.ntmps55
  go_wp2
  go_loopw [8] (fun i w1 => ∃ k : Nat, k ≤ n ∧ i = .int .i64 k ∧ Hid (stepAt m xs 0 = stepAt m (xs.drop k) k) ∧ Below w.heap.size w w1) (fun i _ => n - (intOf i).toNat)
  case atStart => exact ⟨0, Nat.zero_le _, rfl, hid rfl, Below.refl _ _⟩
  case round =>
    obtain ⟨k, hk, rfl, he, hb⟩ := hrel
    by_cases hlt : k < n
    · obtain ⟨x0, x1, b, off, Hx, rfl, hbB, c0, c1⟩ := (hx.below (hb.mono hB)).atStep hlt
      have he2 := he.out
      rw [drop_at Hx.out, stepAt] at he2
      have hm2 := below_cell hm hb
      clear hx he Hx
      by_cases q : m ≤ x0
      · rw [if_pos q] at he2
        have E := hid he2
        have dq : decide (m ≤ x0) = true := by simpa using q
        clear he2
        go_wp2_with (go_at_call 56; refine (costTest_any x0 x1 m gm go wr hm2).mono ?_; rintro r w1 ⟨rfl, b1⟩)
        go_ret
        exact ⟨retI E.out.symm, hb.trans (b1.mono hb.size)⟩
      · rw [if_neg q] at he2
        have E := hid he2
        have dq : decide (m ≤ x0) = false := by simpa using q
        clear he2
        go_wp2_with (go_at_call 56; refine (costTest_any x0 x1 m gm go wr hm2).mono ?_; rintro r w1 ⟨rfl, b1⟩)
        have hb2 := hb.trans (b1.mono hb.size)
        go_roundw
        all_goals first | exact ⟨k + 1, by omega, by go_num, E, hb2⟩ | exact ⟨⟨k + 1, by omega, by go_num, E, hb2⟩, by simp [intOf]; omega⟩ | (simp [intOf]; omega)
    · have : k = n := by omega
      subst this
      have E : Hid (stepAt m xs 0 = -1) := by rw [Hid, he.out, List.drop_of_length_le (by rw [hx.len]; omega)]; rfl
      clear he hx
      go_wp2
      go_ret
      exact ⟨retI E.out.symm, hb⟩
theorem l23Step_any (gt go : Nat) (A : Option Addr) (n c : Nat) (xs : List Step) (m : Int) (w : World) (B : Nat) (hB : B ≤ w.heap.size) (hn : n ≤ 2000000) (hx : Sl w B 2 encStep A n xs)
    (p0 : w.cell? ⟨gt, go, none⟩ = some (.slice A n c)) :
    Calls Tryz.prog 34 #[.pointer (some ⟨gt, go, none⟩), .int .i64 m] w fun r w' => r = .returned (.int .i64 (stepAt m xs 0)) ∧ w' = w := by
  go_enter Tryz.func34, Tryz.ntmps34
  go_wp2
  go_loopw [5] (fun i w1 => ∃ k : Nat, k ≤ n ∧ i = .int .i64 k ∧ Hid (stepAt m xs 0 = stepAt m (xs.drop k) k) ∧ w1 = w) (fun i _ => n - (intOf i).toNat)
  case atStart => exact ⟨0, Nat.zero_le _, rfl, hid rfl, rfl⟩
  case round =>
    obtain ⟨k, hk, rfl, he, rfl⟩ := hrel
    by_cases hlt : k < n
    · obtain ⟨x0, x1, b, off, Hx, rfl, hbB, c0, c1⟩ := hx.atStep hlt
      have he2 := he.out
      rw [drop_at Hx.out, stepAt] at he2
      clear hx he Hx
      by_cases q : m ≤ x0
      · rw [if_pos q] at he2
        have E := hid he2
        clear he2
        go_wp2
        go_ret
        exact ⟨retI E.out.symm, rfl⟩
      · rw [if_neg q] at he2
        have E := hid he2
        clear he2
        go_wp2
        go_roundw
        all_goals first | exact ⟨k + 1, by omega, by go_num, E, by trivial⟩ | exact ⟨⟨k + 1, by omega, by go_num, E, by trivial⟩, by simp [intOf]; omega⟩ | (simp [intOf]; omega)
    · have : k = n := by omega
      subst this
      have E : Hid (stepAt m xs 0 = -1) := by rw [Hid, he.out, List.drop_of_length_le (by rw [hx.len]; omega)]; rfl
      clear he hx
      go_wp2
      go_ret
      exact ⟨retI E.out.symm, rfl⟩
theorem l23Size_any (m g : Int) (w : World) :
    Calls Tryz.prog 33 #[.int .i64 m, .int .i64 g] w fun r w' => r = .returned (.bool (inR m 0 5000 && inR g 0 20000)) ∧ w' = w := by
  cases h1 : inR m 0 5000 <;> cases h2 : inR g 0 20000
  all_goals go_enter Tryz.func33, Tryz.ntmps33
  all_goals go_wp2_with (go_at_call 58; refine (l00In_any _ _ _ _).mono ?_; rintro r w' ⟨rfl, rfl⟩)
  all_goals go_ret
  all_goals exact ⟨rfl, rfl⟩
theorem l23Money_any (a : Int) (w : World) :
    Calls Tryz.prog 38 #[.int .i64 a] w fun r w' => r = .returned (.bool (inR a 0 1000000000)) ∧ w' = w := by
  go_enter Tryz.func38, Tryz.ntmps38
  go_wp2_with (go_at_call 58; refine (l00In_any _ _ _ _).mono ?_; rintro r w' ⟨rfl, rfl⟩)
  go_ret
  exact ⟨rfl, rfl⟩
def codeT (v : Bool) (m g a : Int) : Int := if v then if inR m 0 5000 && inR g 0 20000 && inR a 0 1000000000 then 0 else 2 else 1
theorem tariffCode_any (A : Option Addr) (n c : Nat) (xs : List Step) (h e m g a : Int) (w : World) (B : Nat) (hB : B ≤ w.heap.size) (hn : n ≤ 2000000) (hx : Sl w B 2 encStep A n xs) :
    Calls Tryz.prog 30 #[.agg #[.slice A n c, .int .i64 h, .int .i64 e], .int .i64 m, .int .i64 g, .int .i64 a] w fun r w' => r = .returned (.int .i64 (codeT (validT ⟨xs, h, e⟩) m g a)) ∧ Below w.heap.size w w' := by
  have hc := ValidTariff_any A n c xs h e (w.alloc (.cells #[.slice A n c, .int .i64 h, .int .i64 e] 26)) B (by simp; omega) hn (hx.alloc hB _)
  have hbw : Below w.heap.size w (w.alloc (.cells #[.slice A n c, .int .i64 h, .int .i64 e] 26)) := (Below.refl _ _).alloc (Nat.le_refl _) _
  clear hx
  cases hv : validT ⟨xs, h, e⟩ <;> cases h1 : inR m 0 5000 <;> cases h2 : inR g 0 20000 <;> cases h3 : inR a 0 1000000000
  all_goals rw [hv] at hc
  all_goals go_enter Tryz.func30, Tryz.ntmps30
  all_goals go_wp2_with (first
    | (go_at_call 23; refine hc.mono ?_; rintro r w1 ⟨rfl, b1⟩)
    | (go_at_call 53; refine (within_any _ _ _ _).mono ?_; rintro r w' ⟨rfl, rfl⟩))
  all_goals go_ret
  all_goals exact ⟨retI (by simp [codeT, h1, h2, h3]), hbw.trans (b1.mono (by simp))⟩
end Go.Proofs.YtngfhpklakhehaaGreatDoor
