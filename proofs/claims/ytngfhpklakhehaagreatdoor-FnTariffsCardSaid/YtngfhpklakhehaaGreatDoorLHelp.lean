/-
  What the laws lean on: lists of numbers compared, summed, looked into. No condition.
-/
import Derived.Test.YtngfhpklakhehaaGreatDoorBOpen
namespace Go.Proofs.YtngfhpklakhehaaGreatDoor
open Go.RowKit
set_option maxHeartbeats 400000

/-- the first places of a slice -/
theorem Sl.take {α : Type} {w : World} {B k : Nat} {enc : α → List Value} {A : Option Addr} {n : Nat} {xs : List α} (h : Sl w B k enc A n xs) {m : Nat} (hm : m ≤ n) : Sl w B k enc A m (xs.take m) := by
  refine ⟨by rw [List.length_take_of_le (by rw [h.len]; exact hm)], fun i x hx => ?_⟩
  rw [List.getElem?_take] at hx
  split at hx
  · exact h.2 i x hx
  · cases hx
theorem Sl.intAt {w : World} {B : Nat} {A : Option Addr} {n : Nat} {xs : List Int} (h : Sl w B 1 encI A n xs) {i : Nat} {z : Int} (hx : xs[i]? = some z) : ∃ b off, A = some ⟨b, off, none⟩ ∧ b < B ∧ w.cell? ⟨b, off + i, none⟩ = some (.int .i64 z) := by
  obtain ⟨b, off, e, hb, hc⟩ := h.2 i z hx
  have := hc 0 _ rfl
  simp only [Nat.mul_one, Nat.add_zero] at this
  exact ⟨b, off, e, hb, this⟩


/-- the sum of numbers -/
def sumI : List Int → Int
  | [] => 0
  | x :: r => x + sumI r
theorem sumI_snoc : ∀ (l : List Int) (x : Int), sumI (l ++ [x]) = sumI l + x
  | [], x => by simp [sumI]
  | y :: r, x => by simp only [List.cons_append, sumI, sumI_snoc r x]; omega
theorem sumI_in {M : Int} : ∀ (l : List Int), (∀ z ∈ l, -M ≤ z ∧ z ≤ M) → -(M * l.length) ≤ sumI l ∧ sumI l ≤ M * l.length
  | [], _ => by simp [sumI]
  | y :: r, h => by
    have h1 := sumI_in r fun z hz => h z (by simp [hz])
    have h2 := h y (by simp)
    have e : M * ((r.length + 1 : Nat) : Int) = M * (r.length : Int) + M := by rw [Int.natCast_add, Int.mul_add]; simp
    rw [sumI, List.length_cons, e]
    omega
end Go.Proofs.YtngfhpklakhehaaGreatDoor
