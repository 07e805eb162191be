/-
  Points that are visited: when a list of them is valid; the code of points and a day. No condition.
-/
import Derived.Test.YteckfjnglmkenaaStPoint
import Derived.Test.YteckfjnglmkenaaBasic
import Derived.OwnWalk
namespace Go.Proofs.Yteckfjnglmkenaa
open Go.RowKit
set_option maxHeartbeats 400000

def okPoint (x : Point) : Bool := inR x.i 1 1000 && inR x.l 0 100000
def validPts (xs : List Point) : Bool := decide (xs.length ≤ 30) && xs.all okPoint
def codeP (xs : List Point) (day : Int) : Int := if validPts xs then if inR day 0 100000 then 0 else 2 else 1
def dueD (x : Point) : Int := x.l + x.i
theorem okPoint_at {xs : List Point} (h : validPts xs = true) {k : Nat} {x : Point} (hx : xs[k]? = some x) : 1 ≤ x.i ∧ x.i ≤ 1000 ∧ 0 ≤ x.l ∧ x.l ≤ 100000 := by
  simp only [validPts, Bool.and_eq_true, List.all_eq_true] at h
  have := h.2 x (List.mem_of_getElem? hx)
  simp [okPoint, inR] at this
  omega
theorem validPts_len {xs : List Point} (h : validPts xs = true) : xs.length ≤ 30 := by
  simp only [validPts, Bool.and_eq_true, decide_eq_true_eq] at h
  exact h.1
theorem codeP_zero {xs : List Point} {day : Int} (h : codeP xs day = 0) : validPts xs = true ∧ 0 ≤ day ∧ day ≤ 100000 := by
  unfold codeP at h
  split at h
  · rename_i hv
    split at h
    · rename_i hd
      simp [inR] at hd
      exact ⟨hv, hd⟩
    · cases h
  · cases h
end Go.Proofs.Yteckfjnglmkenaa
