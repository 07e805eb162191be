/-
  Step: a struct of numbers: how a slice of it reads; its copies, comparisons and marks. No condition.
-/
import Derived.Test.YtngfhpklakhehaaGreatDoorInt
import Derived.Test.YtngfhpklakhehaaGreatDoorOpen
namespace Go.Proofs.YtngfhpklakhehaaGreatDoor
open Go.RowKit Go.ChangeShapes Go.WideShapes Go.ChangeAt Go.Deep
set_option maxHeartbeats 400000

structure Step where
  g : Int
  p : Int
  deriving DecidableEq
def encStep (x : Step) : List Value := [.int .i64 x.g, .int .i64 x.p]
theorem encStep_len (x : Step) : (encStep x).length = 2 := rfl
theorem Sl.atStep {w : World} {B : Nat} {A : Option Addr} {n : Nat} {xs : List Step} (h : Sl w B 2 encStep A n xs) {i : Nat} (hi : i < n) :
    ∃ x0 x1 b off, Hid (xs[i]? = some ⟨x0, x1⟩) ∧ A = some ⟨b, off, none⟩ ∧ b < B ∧ w.cell? ⟨b, off + i * 2, none⟩ = some (.int .i64 x0) ∧ w.cell? ⟨b, off + i * 2 + 1, none⟩ = some (.int .i64 x1) := by
  obtain ⟨⟨x0, x1⟩, b, off, hx, e, hb, hc⟩ := h.at_ hi
  exact ⟨x0, x1, b, off, hx, e, hb, hc 0 _ rfl, hc 1 _ rfl⟩
theorem Sl.ofStep {w : World} {B n : Nat} {A : Option Addr} {xs : List Step} (h : Sl w B 2 encStep A n xs) {i : Nat} {x0 x1 : Int} (hx : xs[i]? = some ⟨x0, x1⟩) :
    ∃ b off, A = some ⟨b, off, none⟩ ∧ b < B ∧ w.cell? ⟨b, off + i * 2, none⟩ = some (.int .i64 x0) ∧ w.cell? ⟨b, off + i * 2 + 1, none⟩ = some (.int .i64 x1) := by
  obtain ⟨b, off, e, hb, hc⟩ := h.2 i _ hx
  exact ⟨b, off, e, hb, hc 0 _ rfl, hc 1 _ rfl⟩
theorem Sl.inStep {w : World} {B b off n : Nat} {xs : List Step} (h : Sl w B 2 encStep (some ⟨b, off, none⟩) n xs) {i : Nat} {x0 x1 : Int} (hx : xs[i]? = some ⟨x0, x1⟩) :
    w.cell? ⟨b, off + i * 2, none⟩ = some (.int .i64 x0) ∧ w.cell? ⟨b, off + i * 2 + 1, none⟩ = some (.int .i64 x1) := by
  obtain ⟨b', off', e, _, hc⟩ := h.2 i _ hx
  injection e with e
  injection e with e1 e2
  subst e1 e2
  exact ⟨hc 0 _ rfl, hc 1 _ rfl⟩

/-- the marks of some structs, one number a field -/
def marksStep (m : Int) (n : Nat) : List Step := (List.range n).map fun i => ⟨m + 2 * (i : Nat), m + 2 * (i : Nat) + 1⟩
theorem marksStep_succ (m : Int) (n : Nat) : marksStep m (n + 1) = marksStep m n ++ [⟨m + 2 * n, m + 2 * n + 1⟩] := by simp [marksStep, List.range_succ]
theorem marksStep_len (m : Int) (n : Nat) : (marksStep m n).length = n := by simp [marksStep]
end Go.Proofs.YtngfhpklakhehaaGreatDoor
