/-
  What a carrier costs: the parts of both sides. No condition.
-/
import Derived.Test.YtngfhpklakhehaaDoorTariff2
namespace Go.Proofs.YtngfhpklakhehaaDoor
open Go.RowKit
set_option maxHeartbeats 400000

/-- the place of the first step that bears the metres, -1 for none -/
def stepAt (m : Int) : List Step → Nat → Int
  | [], _ => -1
  | x :: r, k => if m ≤ x.g then k else stepAt m r (k + 1)
theorem stepAt_some {m : Int} {xs : List Step} {k0 : Nat} : stepAt m xs k0 = -1 ∨ ∃ j x, xs[j]? = some x ∧ stepAt m xs k0 = ((k0 + j : Nat) : Int) := by
  induction xs generalizing k0 with
  | nil => exact .inl rfl
  | cons x r ih =>
    unfold stepAt
    split
    · exact .inr ⟨0, x, rfl, rfl⟩
    · rcases ih (k0 := k0 + 1) with h | ⟨j, y, hj, h⟩
      · exact .inl h
      · exact .inr ⟨j + 1, y, hj, by rw [h]; congr 1; omega⟩
def upTo (a : Int) : Int := (a + 99).tdiv 100
theorem upTo_in {a b : Int} (h0 : 0 ≤ a) (h1 : a ≤ 100 * b) : 0 ≤ upTo a ∧ upTo a ≤ b := by
  unfold upTo
  rw [Int.tdiv_eq_ediv_of_nonneg (by omega)]
  omega
def wholeP (x : Step) (h e g : Int) (b : Bool) : Int := if b then upTo ((x.p + h * upTo g) * (100 + e)) else x.p + h * upTo g

def codeT (v : Bool) (m g a : Int) : Int := if v then if inR m 0 5000 && inR g 0 20000 && inR a 0 1000000000 then 0 else 2 else 1
end Go.Proofs.YtngfhpklakhehaaDoor
