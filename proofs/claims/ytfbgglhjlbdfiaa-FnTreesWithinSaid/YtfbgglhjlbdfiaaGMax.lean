/-
  The greatest of some numbers; ShallowTree: the program's side. No condition.
-/
import Derived.Test.YtfbgglhjlbdfiaaGCheap2
namespace Go.Proofs.Ytfbgglhjlbdfiaa
open Go.RowKit
set_option maxHeartbeats 400000

/-- the greatest number of a list that begins with x -/
def maxL (x : Int) (l : List Int) : Int := l.foldl max x
theorem maxL_le {d : Int} : ∀ (l : List Int) (x : Int), maxL x l ≤ d ↔ x ≤ d ∧ ∀ y ∈ l, y ≤ d := by
  intro l
  induction l with
  | nil => intro x; simp [maxL]
  | cons y r ih =>
    intro x
    have := ih (max x y)
    simp only [maxL, List.foldl_cons] at this ⊢
    rw [this]
    simp only [List.mem_cons, forall_eq_or_imp]
    constructor
    · intro ⟨h1, h2⟩; exact ⟨by omega, by omega, h2⟩
    · intro ⟨h1, h2, h3⟩; exact ⟨by omega, h3⟩
theorem max_any (A : Option Addr) (n c : Nat) (x : Int) (xs : List Int) (w : World) (B : Nat) (hn : n ≤ 2000000) (hx : Sl w B 1 encI A n (x :: xs)) :
    Calls Try.prog 35 #[.slice A n c] w fun r w' => r = .returned (.int .i64 (maxL x xs)) ∧ w' = w := by
  have hl := hx.len
  simp only [List.length_cons] at hl
  obtain ⟨z, b, off, Hz, rfl, hb, c0⟩ := hx.int (show 0 < n by omega)
  obtain rfl : x = z := by have := Hz.out; simpa using this
  have hn1 : ¬ ((n : Int) < 1) := by omega
  simp only [Nat.add_zero] at c0
  go_enter Try.func35, Try.ntmps35
  go_wp2
  go_loopw [3, 4] (fun s i w1 => ∃ (k : Nat) (y : Int), 1 ≤ k ∧ k ≤ n ∧ i = .int .i64 k ∧ s = .int .i64 y ∧ Hid (maxL x xs = maxL y (xs.drop (k - 1))) ∧ w1 = w) (fun _ i _ => n - (intOf i).toNat)
  case atStart => exact ⟨1, x, Nat.le_refl _, by omega, rfl, rfl, rfl, rfl⟩
  case round =>
    obtain ⟨k, y, hk1, hk, rfl, rfl, he, rfl⟩ := hrel
    by_cases hlt : k < n
    · obtain ⟨v, b', off', Hv, e2, hb', d0⟩ := hx.int hlt
      injection e2 with e2
      injection e2 with e2 e3
      subst e2 e3
      have hv : xs[k - 1]? = some v := by
        have := Hv.out
        rw [List.getElem?_cons, if_neg (by omega)] at this
        exact this
      have he2 := he.out
      rw [drop_at hv, show k - 1 + 1 = k + 1 - 1 by omega] at he2
      have E : Hid (maxL x xs = maxL (max y v) (xs.drop (k + 1 - 1))) := he2
      clear he he2 hx hv Hv Hz
      go_wp2
      go_roundw
      all_goals first | exact ⟨k + 1, max y v, by omega, by omega, by go_num, by go_num, E, by trivial⟩ | exact ⟨⟨k + 1, max y v, by omega, by omega, by go_num, by go_num, E, by trivial⟩, by simp [intOf]; omega⟩ | (simp [intOf]; omega)
    · have : k = n := by omega
      subst this
      have E : Hid (maxL x xs = y) := by rw [Hid, he.out, List.drop_of_length_le (by omega)]; rfl
      clear he hx Hz
      go_wp2
      go_ret
      exact ⟨retI E.out.symm, rfl⟩
end Go.Proofs.Ytfbgglhjlbdfiaa
