/-
  DueOn and VisitsBetween: both sides. No condition.
-/
import Derived.Test.YteckfjnglmkenaaPPts
namespace Go.Proofs.Yteckfjnglmkenaa
open Go.RowKit
set_option maxHeartbeats 400000

/-- a list of numbers and a code -/
def ListPost (w : World) (R : List Int × Int) (r : Ending) (w' : World) : Prop :=
  ∃ A n c, r = .returned (.tuple #[.slice A n c, .int .i64 R.2]) ∧ w'.ownsRow w.heap.size 2 1 (.slice A n c) n (R.1.flatMap encI) ∧ Below w.heap.size w w'
theorem ListPost.bad {w w' : World} {R : List Int × Int} {z : Int} (hR : R = ([], z)) (hb : Below w.heap.size w w') : ListPost w R (.returned (.tuple #[.slice none 0 0, .int .i64 z])) w' := by
  subst hR
  exact ⟨none, 0, 0, rfl, World.ownsRow_nil _ _ _ _, hb⟩
/-- the points that are due -/
def dueK (xs : List Point) (day : Int) : Nat → List Int
  | 0 => []
  | k + 1 => if dueD (xs.getD k ⟨0, 0⟩) ≤ day then dueK xs day k ++ [(k : Int)] else dueK xs day k
def dueF (xs : List Point) (day : Int) : List Int × Int := if codeP xs day = 0 then (dueK xs day xs.length, 0) else ([], codeP xs day)
theorem dueK_len (xs : List Point) (day : Int) : ∀ k, (dueK xs day k).length ≤ k := by
  intro k
  induction k with
  | zero => simp [dueK]
  | succ k ih => simp only [dueK]; split; (simp; omega); omega
theorem dueK_yes {xs : List Point} {day : Int} {k : Nat} {x : Point} (h : xs[k]? = some x) (hd : dueD x ≤ day) : dueK xs day (k + 1) = dueK xs day k ++ [(k : Int)] := by simp [dueK, List.getD, h, hd]
theorem dueK_no {xs : List Point} {day : Int} {k : Nat} {x : Point} (h : xs[k]? = some x) (hd : ¬ dueD x ≤ day) : dueK xs day (k + 1) = dueK xs day k := by simp [dueK, List.getD, h, hd]
theorem dueF_len (xs : List Point) (day : Int) (h : xs.length ≤ 2000000) : (dueF xs day).1.length ≤ 2000000 := by
  unfold dueF
  split
  · exact Nat.le_trans (dueK_len _ _ _) h
  · simp
theorem snocI (l : List Int) (x : Int) : l.flatMap encI ++ [.int .i64 x] = (l ++ [x]).flatMap encI := by simp [encI]
theorem code_cases (xs : List Point) (day : Int) : codeP xs day = 0 ∨ codeP xs day ≠ 0 := by omega
end Go.Proofs.Yteckfjnglmkenaa
