/-
  Tables and lists of numbers that come in as arguments, read as lists. No condition.
-/
import Derived.Test.YtbgpdaclaknapaaOpen
import Derived.Test.YtbgpdaclaknapaaGRow
import Derived.Deep.Matrix
namespace Go.Proofs.Ytbgpdaclaknapaa
open Go.ChangeShapes Go.WideShapes Go.ChangeAt Go.RowKit Go.Deep

theorem take_getD {zs : List Int} {L j : Nat} {z : Int} (h : (zs.take L)[j]? = some z) : zs.getD j 0 = z := by
  have hj := (List.getElem?_eq_some_iff.1 h).1
  simp at hj
  rw [List.getElem?_take, if_pos (by omega)] at h
  simp [List.getD, h]

theorem open_Ints {H : Type} {enc : TypeId × Value → H} {W : World} {base : Nat} {v : Value} {d : DataW H} {p : List MemPlace} (hv : Value.okWide Try.prog W .any base 35 v)
    (h : DataW.Trod enc Try.prog W 0 (fun _ => true) true 35 v d p) : ∃ A n c xs, v = .slice A n c ∧ n ≤ 9223372036854775807 ∧ Sl W W.heap.size 1 encI A n xs := by
  obtain ⟨a0, len, cap, rfl⟩ := okWide_slice Try.underlying35 hv
  obtain ⟨fuel, hf⟩ := h
  rcases open_ints Try.underlying35 Try.underlying2 (by kernel_rfl) hf with ⟨hcs, _⟩ | ⟨a, len', cap', zs, hcs, _, hl, hm, hz, _, hcell, _⟩
  · simp [Value.cells] at hcs
    obtain ⟨rfl, rfl, rfl⟩ := hcs
    exact ⟨_, _, _, [], rfl, by omega, rfl, fun i x hx => by simp at hx⟩
  · simp [Value.cells] at hcs
    obtain ⟨rfl, rfl, rfl⟩ := hcs
    simp only [if_true] at hz
    obtain ⟨b, off, sp⟩ := a
    refine ⟨_, len, cap, zs.take len, rfl, by unfold maxLen at hm; omega, by simp; omega, fun i x hx => ?_⟩
    have hil : i < len := by have := (List.getElem?_eq_some_iff.1 hx).1; simp at this; omega
    have hc := hcell i (by omega)
    rw [take_getD hx] at hc
    have hsp := spot_none (b := b) (o := off) (s := sp) (hcell 0 (by omega))
    subst hsp
    rw [Addr.add_lit] at hc
    refine ⟨b, off, rfl, World.block_lt_of_cell? _ _ hc, fun j u hj => ?_⟩
    match j, hj with
    | 0, hj => simp [encI] at hj; subst hj; simpa using hc

end Go.Proofs.Ytbgpdaclaknapaa
