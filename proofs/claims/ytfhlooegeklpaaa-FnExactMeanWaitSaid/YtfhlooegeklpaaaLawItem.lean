/-
  A queue that comes in as an argument, read as a list; the statement on ValidQueue. No condition.
-/
import Derived.Test.YtfhlooegeklpaaaOpen
import Derived.Test.YtfhlooegeklpaaaItem2
namespace Go.Proofs.Ytfhlooegeklpaaa
open Go.ChangeShapes Go.WideShapes Go.ChangeAt Go.RowKit Go.Deep

theorem open_Items {H : Type} {enc : TypeId × Value → H} {W : World} {base : Nat} {v : Value} {d : DataW H} {p : List MemPlace} (hv : Value.okWide Try.prog W .any base 22 v)
    (h : DataW.Trod enc Try.prog W 0 (fun _ => true) true 22 v d p) : ∃ A n c xs, v = .slice A n c ∧ n ≤ 9223372036854775807 ∧ Sl W W.heap.size 3 encItem A n xs := by
  obtain ⟨a0, len, cap, rfl⟩ := okWide_slice Try.underlying22 hv
  obtain ⟨fuel, hf⟩ := h
  rcases open_slice_fields Try.underlying22 Try.underlying53 (by kernel_rfl) (by kernel_rfl) hf with ⟨hcs, _⟩ | ⟨a, len', cap', m, D, Pl, hcs, _, hl, hm, hmm, _, hi⟩
  · simp [Value.cells] at hcs
    obtain ⟨rfl, rfl, rfl⟩ := hcs
    exact ⟨_, _, _, [], rfl, by omega, rfl, fun i x hx => by simp at hx⟩
  · simp [Value.cells] at hcs
    obtain ⟨rfl, rfl, rfl⟩ := hcs
    obtain ⟨b, off, sp⟩ := a
    have hmc : m = cap := by simpa using hmm
    subst hmc
    have hc : ∀ i, i < len → sp = none ∧ b < W.heap.size ∧ ∃ x y z : Int, W.cell? ⟨b, off + i * 3, none⟩ = some (.int .i64 x) ∧ W.cell? ⟨b, off + i * 3 + 1, none⟩ = some (.int .i64 y) ∧ W.cell? ⟨b, off + i * 3 + 2, none⟩ = some (.int .i64 z) := by
      intro i hil
      have hsp : sp = none := by
        obtain ⟨ys, n, _, _, _, hj⟩ := hi 0 (by omega)
        obtain ⟨v, y, hcell, _, _⟩ := hj 0 _ rfl
        exact spot_none hcell
      subst hsp
      obtain ⟨ys, n, _, _, _, hj⟩ := hi i (by omega)
      obtain ⟨v0, y0, c0, _, t0⟩ := hj 0 _ rfl
      obtain ⟨v1, y1, c1, _, t1⟩ := hj 1 _ rfl
      obtain ⟨v2, y2, c2, _, t2⟩ := hj 2 _ rfl
      obtain ⟨z0, e0, _, _⟩ := DataW.trod_int Try.underlying2 t0
      obtain ⟨z1, e1, _, _⟩ := DataW.trod_int Try.underlying2 t1
      obtain ⟨z2, e2, _, _⟩ := DataW.trod_int Try.underlying2 t2
      simp only [List.cons.injEq, and_true] at e0 e1 e2
      subst e0 e1 e2
      rw [Addr.add_lit] at c0 c1 c2
      exact ⟨rfl, World.block_lt_of_cell? _ _ c0, z0, z1, z2, c0, c1, c2⟩
    refine ⟨_, len, m, (List.range len).map fun i => ⟨numAt W ⟨b, off + i * 3, none⟩, numAt W ⟨b, off + i * 3 + 1, none⟩, numAt W ⟨b, off + i * 3 + 2, none⟩⟩, rfl, by unfold maxLen at hm; omega, by simp, fun i x hx => ?_⟩
    have hil : i < len := by simpa using (List.getElem?_eq_some_iff.1 hx).1
    obtain ⟨hs, hb, x0, y0, z0, c0, c1, c2⟩ := hc i hil
    simp [hil] at hx
    subst hx hs
    rw [numAt_of c0, numAt_of c1, numAt_of c2]
    refine ⟨b, off, rfl, hb, fun j u hj => ?_⟩
    match j, hj with
    | 0, hj => simp [encItem] at hj; subst hj; exact c0
    | 1, hj => simp [encItem] at hj; subst hj; exact c1
    | 2, hj => simp [encItem] at hj; subst hj; exact c2

end Go.Proofs.Ytfhlooegeklpaaa
