/-
  Points that are visited: when a list of them is valid; the code of points and a day. No condition.
-/
import Derived.Test.YtjnapgkpcmfjbaaDoorStPoint
import Derived.Test.YtjnapgkpcmfjbaaDoorBasic
import Derived.OwnWalk
namespace Go.Proofs.YtjnapgkpcmfjbaaDoor
open Go.RowKit
set_option maxHeartbeats 400000

def okPoint (x : Point) : Bool := inR x.i 1 1000 && inR x.l 0 100000
def validPts (xs : List Point) : Bool := decide (xs.length ≤ 30) && xs.all okPoint
def codeP (xs : List Point) (day : Int) : Int := if validPts xs then if inR day 0 100000 then 0 else 2 else 1
def dueD (x : Point) : Int := x.l + x.i
theorem okPoint_at {xs : List Point} (h : validPts xs = true) {k : Nat} {x : Point} (hx : xs[k]? = some x) : 1 ≤ x.i ∧ x.i ≤ 1000 ∧ 0 ≤ x.l ∧ x.l ≤ 100000 := by
  simp only [validPts, Bool.and_eq_true, List.all_eq_true] at h
  have := h.2 x (List.mem_of_getElem? hx)
  simp [okPoint, inR] at this
  omega
theorem validPts_len {xs : List Point} (h : validPts xs = true) : xs.length ≤ 30 := by
  simp only [validPts, Bool.and_eq_true, decide_eq_true_eq] at h
  exact h.1
theorem isRoundDay_any (a : Int) (w : World) : Calls Tryd.prog 45 #[.int .i64 a] w fun e w' => e = .returned (.bool (inR a 0 100000)) ∧ w' = w := by
  go_enter Tryd.func45, Tryd.ntmps45
  go_wp2_with (go_at_call 25; refine (within_any _ _ _ _).mono ?_; rintro e w' ⟨rfl, rfl⟩)
  go_ret
  exact ⟨rfl, rfl⟩
theorem validPoint_any (a t : Int) (w : World) :
    Calls Tryd.prog 28 #[.agg #[.int .i64 a, .int .i64 t]] w fun e w' => e = .returned (.bool (okPoint ⟨a, t⟩)) ∧ Below w.heap.size w w' := by
  unfold okPoint
  go_enter Tryd.func28, Tryd.ntmps28
  cases h1 : inR a 1 1000 <;> cases h2 : inR t 0 100000
  all_goals go_wp2_with (first
    | (go_at_call 25; refine (within_any _ _ _ _).mono ?_; rintro e w' ⟨rfl, rfl⟩)
    | (go_at_call 45; refine (isRoundDay_any _ _).mono ?_; rintro e w' ⟨rfl, rfl⟩))
  all_goals go_ret
  all_goals refine ⟨by simp, ?_⟩
  all_goals repeat (first | with_reducible assumption | with_reducible exact Below.refl _ _ | with_reducible refine bl_drew ?_ | with_reducible refine bl_drewN ?_ | ((with_reducible refine bl_set ?_ ?_); focus (first | (simp; done) | (simp; omega) | omega)) | ((with_reducible refine bl_alloc ?_ ?_); focus (first | (simp; done) | (simp; omega) | omega)))
theorem l19Ok_any (A : Option Addr) (n c : Nat) (xs : List Point) (w : World) (B : Nat) (hB : B ≤ w.heap.size) (hn : n ≤ 2000000) (hx : Sl w B 2 encPoint A n xs) :
    Calls Tryd.prog 27 #[.slice A n c] w fun e w' => e = .returned (.bool (validPts xs)) ∧ w' = w := by
  go_enter Tryd.func27, Tryd.ntmps27
  go_wp2
  go_loopw [3] (fun i w1 => ∃ k : Nat, k ≤ n ∧ i = .int .i64 k ∧ Hid (xs.all okPoint = (xs.drop k).all okPoint) ∧ w1 = w) (fun i _ => n - (intOf i).toNat)
  case atStart => exact ⟨0, Nat.zero_le _, rfl, hid rfl, rfl⟩
  case round =>
    obtain ⟨k, hk, rfl, he, rfl⟩ := hrel
    by_cases hlt : k < n
    · obtain ⟨x, y, b, off, Hx, rfl, hbB, c0, c1⟩ := hx.atPoint hlt
      have he2 := he.out
      rw [drop_at Hx.out, List.all_cons] at he2
      have hv : validPts xs = (decide (n ≤ 30) && xs.all okPoint) := by simp [validPts, hx.len]
      clear hx
      cases h1 : inR x 1 1000 <;> cases h2 : inR y 0 100000
      all_goals
        have He2 := hid he2
        have Hv := hid hv
        clear he2 hv he
        go_wp2_with (go_at_call 23; refine (l00In_any _ _ _ _).mono ?_; rintro e w' ⟨rfl, rfl⟩)
      all_goals first
        | (go_ret; exact ⟨retB (by rw [Hv.out, He2.out]; simp [okPoint, h1, h2]), rfl⟩)
        | (have He3 : Hid (xs.all okPoint = (xs.drop (k + 1)).all okPoint) := by rw [He2.out]; simp [Hid, okPoint, h1, h2]
           go_roundw
           all_goals first | exact ⟨k + 1, by omega, by go_num, He3, by trivial⟩ | exact ⟨⟨k + 1, by omega, by go_num, He3, by trivial⟩, by simp [intOf]; omega⟩ | (simp [intOf]; omega))
    · have : k = n := by omega
      subst this
      have he2 := he.out
      rw [List.drop_of_length_le (by rw [hx.len]; omega), List.all_nil] at he2
      have hv : validPts xs = decide (k ≤ 30) := by simp [validPts, hx.len, he2]
      have Hv := hid hv
      clear hx he he2 hv
      go_wp2
      go_ret
      exact ⟨retB (by rw [Hv.out]; simp; try omega), rfl⟩
theorem codeP_zero {xs : List Point} {day : Int} (h : codeP xs day = 0) : validPts xs = true ∧ 0 ≤ day ∧ day ≤ 100000 := by
  unfold codeP at h
  split at h
  · rename_i hv
    split at h
    · rename_i hd
      simp [inR] at hd
      exact ⟨hv, hd⟩
    · cases h
  · cases h
end Go.Proofs.YtjnapgkpcmfjbaaDoor
