/-
  Point: a struct of numbers: how a slice of it reads; its copies, comparisons and marks. No condition.
-/
import Derived.Test.YtehjfajmnciiaaaDoorInt
import Derived.Test.YtehjfajmnciiaaaDoorOpen
namespace Go.Proofs.YtehjfajmnciiaaaDoor
open Go.RowKit Go.ChangeShapes Go.WideShapes Go.ChangeAt Go.Deep
set_option maxHeartbeats 400000

structure Point where
  i : Int
  l : Int
  deriving DecidableEq
def encPoint (x : Point) : List Value := [.int .i64 x.i, .int .i64 x.l]
theorem encPoint_len (x : Point) : (encPoint x).length = 2 := rfl
theorem Sl.atPoint {w : World} {B : Nat} {A : Option Addr} {n : Nat} {xs : List Point} (h : Sl w B 2 encPoint A n xs) {i : Nat} (hi : i < n) :
    ∃ x0 x1 b off, Hid (xs[i]? = some ⟨x0, x1⟩) ∧ A = some ⟨b, off, none⟩ ∧ b < B ∧ w.cell? ⟨b, off + i * 2, none⟩ = some (.int .i64 x0) ∧ w.cell? ⟨b, off + i * 2 + 1, none⟩ = some (.int .i64 x1) := by
  obtain ⟨⟨x0, x1⟩, b, off, hx, e, hb, hc⟩ := h.at_ hi
  exact ⟨x0, x1, b, off, hx, e, hb, hc 0 _ rfl, hc 1 _ rfl⟩
theorem Sl.ofPoint {w : World} {B n : Nat} {A : Option Addr} {xs : List Point} (h : Sl w B 2 encPoint A n xs) {i : Nat} {x0 x1 : Int} (hx : xs[i]? = some ⟨x0, x1⟩) :
    ∃ b off, A = some ⟨b, off, none⟩ ∧ b < B ∧ w.cell? ⟨b, off + i * 2, none⟩ = some (.int .i64 x0) ∧ w.cell? ⟨b, off + i * 2 + 1, none⟩ = some (.int .i64 x1) := by
  obtain ⟨b, off, e, hb, hc⟩ := h.2 i _ hx
  exact ⟨b, off, e, hb, hc 0 _ rfl, hc 1 _ rfl⟩
theorem Sl.inPoint {w : World} {B b off n : Nat} {xs : List Point} (h : Sl w B 2 encPoint (some ⟨b, off, none⟩) n xs) {i : Nat} {x0 x1 : Int} (hx : xs[i]? = some ⟨x0, x1⟩) :
    w.cell? ⟨b, off + i * 2, none⟩ = some (.int .i64 x0) ∧ w.cell? ⟨b, off + i * 2 + 1, none⟩ = some (.int .i64 x1) := by
  obtain ⟨b', off', e, _, hc⟩ := h.2 i _ hx
  injection e with e
  injection e with e1 e2
  subst e1 e2
  exact ⟨hc 0 _ rfl, hc 1 _ rfl⟩

theorem Point_info : (Tryd.prog.info? 42).map (fun i => (i.zero, i.size, i.bytes)) = some (some (.agg #[.int .i64 0, .int .i64 0]), 2, 16) := by kernel_rfl
/-- the marks of some structs, one number a field -/
def marksPoint (m : Int) (n : Nat) : List Point := (List.range n).map fun i => ⟨m + 2 * (i : Nat), m + 2 * (i : Nat) + 1⟩
theorem marksPoint_succ (m : Int) (n : Nat) : marksPoint m (n + 1) = marksPoint m n ++ [⟨m + 2 * n, m + 2 * n + 1⟩] := by simp [marksPoint, List.range_succ]
theorem marksPoint_len (m : Int) (n : Nat) : (marksPoint m n).length = n := by simp [marksPoint]
end Go.Proofs.YtehjfajmnciiaaaDoor
