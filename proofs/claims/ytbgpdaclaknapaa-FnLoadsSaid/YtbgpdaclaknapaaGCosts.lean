/-
  Valid tables of costs: the program's function and the reference's. No condition.
-/
import Derived.Test.YtbgpdaclaknapaaGTab
namespace Go.Proofs.Ytbgpdaclaknapaa
open Go.RowKit
set_option maxHeartbeats 400000

def cellOk (css : List (List Int)) (i k : Nat) : Prop := (i = k → cAt css i k = 0) ∧ (i ≠ k → 1 ≤ cAt css i k ∧ cAt css i k ≤ 10000) ∧ cAt css i k = cAt css k i
theorem validC_row {css : List (List Int)} {i : Nat} {row : List Int} (hi : css[i]? = some row) (hl : row.length ≠ css.length) : validC css = false :=
  validC_false fun h => hl (by
    have := h.2.1 i (List.getElem?_eq_some_iff.1 hi).1
    rwa [List.getD, hi] at this)
theorem validC_cell {css : List (List Int)} {i k : Nat} (hi : i < css.length) (hk : k < css.length) (h : ¬ cellOk css i k) : validC css = false :=
  validC_false fun h' => h (h'.2.2 i hi k hk)
theorem validC_n {css : List (List Int)} (h : inR css.length 2 6 = false) : validC css = false :=
  validC_false fun h' => by
    have h1 := h'.1
    have : inR css.length 2 6 = true := by simp [inR]; omega
    rw [h] at this
    cases this
theorem validC_of {css : List (List Int)} (h1 : ∀ (i : Nat) (row : List Int), css[i]? = some row → row.length = css.length) (h2 : ∀ i, i < css.length → ∀ k, k < css.length → cellOk css i k) : validC css = inR css.length 2 6 := by
  cases hn : inR css.length 2 6 with
  | false => exact validC_n hn
  | true =>
    rw [validC_iff]
    refine ⟨by simp [inR] at hn; omega, fun i hi => ?_, h2⟩
    rw [List.getD, List.getElem?_eq_getElem hi]
    exact h1 i _ (List.getElem?_eq_getElem hi)

end Go.Proofs.Ytbgpdaclaknapaa
