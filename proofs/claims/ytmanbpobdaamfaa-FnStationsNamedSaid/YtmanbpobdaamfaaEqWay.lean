/-
  Lists of Ways that are alike. No condition.
-/
import Derived.Test.YtmanbpobdaamfaaStWay
namespace Go.Proofs.Ytmanbpobdaamfaa
open Go.RowKit
set_option maxHeartbeats 400000

theorem diffWay (x0 y0 : ByteArray) (x1 y1 : ByteArray) (x2 y2 : Int) : (x0 = y0 ∧ x1 = y1 ∧ x2 = y2) ∨ (x0 ≠ y0) ∨ (x0 = y0 ∧ x1 ≠ y1) ∨ (x0 = y0 ∧ x1 = y1 ∧ x2 ≠ y2) := by
  by_cases h0 : x0 = y0
  rotate_left
  · exact .inr (.inl h0)
  by_cases h1 : x1 = y1
  rotate_left
  · exact .inr (.inr (.inl ⟨h0, h1⟩))
  by_cases h2 : x2 = y2
  · exact .inl ⟨h0, h1, h2⟩
  · exact .inr (.inr (.inr (⟨h0, h1, h2⟩)))
theorem firstWay {x0 y0 : ByteArray} {x1 y1 : ByteArray} {x2 y2 : Int} {xs ys : List Way} : ((⟨x0, x1, x2⟩ : Way) :: xs = ⟨y0, y1, y2⟩ :: ys) = ((x0 = y0 ∧ x1 = y1 ∧ x2 = y2) ∧ xs = ys) := by simp
end Go.Proofs.Ytmanbpobdaamfaa
