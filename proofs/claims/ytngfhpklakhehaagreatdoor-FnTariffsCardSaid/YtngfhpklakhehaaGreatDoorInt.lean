/-
  Lists of numbers: compared, marked, held; where one of them stands. No condition.
-/
import Derived.Test.YtngfhpklakhehaaGreatDoorBase
namespace Go.Proofs.YtngfhpklakhehaaGreatDoor
open Go.RowKit
set_option maxHeartbeats 400000

theorem encI_len (z : Int) : (encI z).length = 1 := rfl
theorem int_info : (Tryz.prog.info? 2).map (fun i => (i.zero, i.size, i.bytes)) = some (some (.int .i64 0), 1, 8) := by kernel_rfl


/-- the marks k, k + 1 .. -/
def marks (k : Int) (n : Nat) : List Int := (List.range n).map fun i => k + (i : Nat)
theorem marks_succ (k : Int) (n : Nat) : marks k (n + 1) = marks k n ++ [k + n] := by simp [marks, List.range_succ]
theorem marks_len (k : Int) (n : Nat) : (marks k n).length = n := by simp [marks]

theorem own_lt {w : World} {lo T k : Nat} {g n c : Nat} {l : List Value} (h : w.ownsRow lo T k (.slice (some ⟨g, 0, none⟩) n c) n l) : lo ≤ g ∧ g < w.heap.size := h.lt g rfl
/-- where an own row of some elements lies -/
theorem own_some {w : World} {lo T k : Nat} {A : Option Addr} {n c : Nat} {l : List Value} (h : w.ownsRow lo T k (.slice A n c) n l) (hn : 0 < n) : ∃ g, A = some ⟨g, 0, none⟩ ∧ lo ≤ g ∧ g < w.heap.size := by
  obtain ⟨g, cap, hv, h1, h2⟩ := h.form hn
  injection hv with hA _ hc
  exact ⟨g, hA, h1, h2⟩

/-- a number in an own row -/
theorem own_int {w : World} {lo T g n c : Nat} {l : List Int} (h : w.ownsRow lo T 1 (.slice (some ⟨g, 0, none⟩) n c) n (l.flatMap encI)) {k : Nat} {z : Int} (hk : l[k]? = some z) : w.cell? ⟨g, k, none⟩ = some (.int .i64 z) ∧ w.frozen? ⟨g, k, none⟩ = false := by
  have hl := h.1
  rw [flatMap_len encI_len] at hl
  have hkl := (List.getElem?_eq_some_iff.1 hk).1
  refine ⟨?_, h.frozenAt k⟩
  rw [h.cellAt k (by omega)]
  have := flatMap_get encI_len (j := 0) (u := .int .i64 z) l k hk rfl
  simpa using this


end Go.Proofs.YtngfhpklakhehaaGreatDoor
