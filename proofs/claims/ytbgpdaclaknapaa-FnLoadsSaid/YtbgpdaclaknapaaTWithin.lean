/-
  FarthestWithin and SplitLoad: the program's functions and the reference's. No condition.
-/
import Derived.Test.YtbgpdaclaknapaaTPriceFor
namespace Go.Proofs.Ytbgpdaclaknapaa
open Go.RowKit
set_option maxHeartbeats 400000

/-- the greatest distance below 100 k for a price -/
def farAt (x : Step) (h e p : Int) (bb : Bool) : Nat → Int × Int
  | 0 => (0, 3)
  | k + 1 => if wholeP x h e (100 * (k : Int)) bb ≤ p then (100 * (k : Int), 0) else farAt x h e p bb k
def farF (xs : List Step) (h e m p : Int) (bb : Bool) : Int × Int :=
  if validT ⟨xs, h, e⟩ then if inR m 0 5000 && inR p 0 1000000000 then match xs.find? fun x => decide (m ≤ x.g) with | none => (0, 5) | some x => farAt x h e p bb 201 else (0, 2) else (0, 1)
theorem inR_00 (a b : Int) (h0 : a ≤ 0) (h1 : 0 ≤ b) : inR 0 a b = true := by rw [inR_iff]; omega
end Go.Proofs.Ytbgpdaclaknapaa
