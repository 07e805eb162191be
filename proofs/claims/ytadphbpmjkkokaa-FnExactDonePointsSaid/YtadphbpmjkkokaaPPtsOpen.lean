/-
  A list of points that comes in as an argument, read as a list. No condition.
-/
import Derived.Test.YtadphbpmjkkokaaGOpen
import Derived.Test.YtadphbpmjkkokaaPPts
namespace Go.Proofs.Ytadphbpmjkkokaa
open Go.ChangeShapes Go.WideShapes Go.ChangeAt Go.RowKit Go.Deep
theorem open_Points {H : Type} {enc : TypeId × Value → H} {W : World} {base : Nat} {v : Value} {d : DataW H} {p : List MemPlace} (hv : Value.okWide Try.prog W .any base 32 v)
    (h : DataW.Trod enc Try.prog W 0 (fun _ => true) true 32 v d p) : ∃ A n c xs, v = .slice A n c ∧ n ≤ 9223372036854775807 ∧ Sl W W.heap.size 2 encPoint A n xs := by
  obtain ⟨a0, len, cap, rfl⟩ := okWide_slice Try.underlying32 hv
  obtain ⟨fuel, hf⟩ := h
  obtain ⟨A, n, c, xs, e, hn, hx⟩ := open_PointS rfl hf
  simp [Value.cells] at e
  obtain ⟨rfl, rfl, rfl⟩ := e
  exact ⟨_, _, _, xs, rfl, hn, hx⟩
end Go.Proofs.Ytadphbpmjkkokaa
