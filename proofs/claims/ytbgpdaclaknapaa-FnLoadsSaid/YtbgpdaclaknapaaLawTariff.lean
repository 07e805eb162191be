/-
  A tariff that comes in as an argument; the statement on ValidTariff, walked. No condition.
-/
import Derived.Test.YtbgpdaclaknapaaTariff2
import Derived.Lib.SmallJoins
namespace Go.Proofs.Ytbgpdaclaknapaa
open Go.RowKit Go.ChangeShapes Go.WideShapes Go.ChangeAt Go.Deep Go.Joins
set_option maxHeartbeats 400000

set_option maxRecDepth 100000 in
theorem open_Tariff {H : Type} {enc : TypeId × Value → H} {W : World} {base : Nat} {v : Value} {d : DataW H} {p : List MemPlace} (hv : Value.okWide Try.prog W .any base 24 v)
    (h : DataW.Trod enc Try.prog W 0 (fun _ => true) true 24 v d p) : ∃ A n c xs h e, v = .agg #[.slice A n c, .int .i64 h, .int .i64 e] ∧ n ≤ 9223372036854775807 ∧ Sl W W.heap.size 2 encStep A n xs := by
  obtain ⟨v0, v1, v2, y0, y1, y2, m, rfl, _, _, h0, h1, h2⟩ := open_agg3 Try.underlying24 (by kernel_rfl) (by kernel_rfl) hv h
  obtain ⟨A, n, c, xs, e0, hn, hx⟩ := open_StepS rfl h0
  obtain ⟨z1, e1, _, _⟩ := DataW.trod_int Try.underlying2 h1
  obtain ⟨z2, e2, _, _⟩ := DataW.trod_int Try.underlying2 h2
  simp only [List.cons.injEq, and_true] at e0 e1 e2
  subst e0 e1 e2
  exact ⟨A, n, c, xs, z1, z2, rfl, hn, hx⟩

theorem szStep_small {n : Nat} (h : n ≤ 1048576) : ¬ szStep 1048576 n < 0 := by unfold szStep; split <;> omega
theorem szStep_big {n : Nat} (h : ¬ n ≤ 1048576) : szStep 1048576 n < 0 := by unfold szStep; split <;> omega

end Go.Proofs.Ytbgpdaclaknapaa
