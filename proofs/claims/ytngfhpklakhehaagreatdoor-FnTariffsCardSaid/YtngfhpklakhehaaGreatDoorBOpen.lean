/-
  Bytes that come in as an argument; when they are too many. No condition.
-/
import Derived.Test.YtngfhpklakhehaaGreatDoorOpen
import Derived.Test.YtngfhpklakhehaaGreatDoorSrc
import Derived.ChangeSlices
namespace Go.Proofs.YtngfhpklakhehaaGreatDoor
open Go.ChangeShapes Go.WideShapes Go.ChangeAt Go.RowKit Go.Deep

theorem take_getB {zs : List Int} {L j : Nat} {z : Int} (h : (zs.take L)[j]? = some z) : zs.getD j 0 = z := by
  rw [List.getElem?_take] at h
  split at h
  · rw [List.getD_eq_getElem?_getD, h]; rfl
  · cases h
set_option maxRecDepth 100000 in
theorem open_Bytes {H : Type} {enc : TypeId × Value → H} {W : World} {base : Nat} {v : Value} {d : DataW H} {p : List MemPlace} (hv : Value.okWide Tryz.prog W .any base 22 v)
    (h : DataW.Trod enc Tryz.prog W 0 (fun _ => true) true 22 v d p) : Bytes W W.heap.size 9223372036854775807 v := by
  obtain ⟨a0, len, cap, rfl⟩ := okWide_slice Tryz.underlying22 hv
  obtain ⟨fuel, hf⟩ := h
  rcases open_ints Tryz.underlying22 Tryz.underlying5 (by kernel_rfl) hf with ⟨hcs, _⟩ | ⟨a, len', cap', zs, hcs, _, hl, hm, hz, _, hcell, hwf⟩
  · simp [Value.cells] at hcs
    obtain ⟨rfl, rfl, rfl⟩ := hcs
    exact ⟨_, _, _, [], rfl, by omega, ⟨rfl, fun i x hx => by simp at hx⟩, fun z hz => by cases hz⟩
  · simp [Value.cells] at hcs
    obtain ⟨rfl, rfl, rfl⟩ := hcs
    simp only [if_true] at hz
    obtain ⟨b, off, sp⟩ := a
    refine ⟨_, len, cap, zs.take len, rfl, by unfold maxLen at hm; omega, ⟨by simp; omega, fun i x hx => ?_⟩, fun z hz2 => ?_⟩
    · have hil : i < len := by have := (List.getElem?_eq_some_iff.1 hx).1; simp at this; omega
      have hc := hcell i (by omega)
      rw [take_getB hx] at hc
      have hsp := spot_none (b := b) (o := off) (s := sp) (hcell 0 (by omega))
      subst hsp
      rw [Addr.add_lit] at hc
      refine ⟨b, off, rfl, World.block_lt_of_cell? _ _ hc, fun j u hj => ?_⟩
      match j, hj with
      | 0, hj => simp [encB] at hj; subst hj; simpa using hc
    · have := hwf z (List.mem_of_mem_take hz2)
      simp [Lit.wf, IntKind.min, IntKind.max, IntKind.signed, IntKind.bits] at this
      omega
theorem f6big_any (A : Option Addr) (n c : Nat) (w : World) (hn : n ≤ 9223372036854775807) :
    Calls Tryz.prog 4 #[.slice A n c] w fun e w' => e = .returned (.bool (decide (4096 < n))) ∧ w' = w := by
  go_enter Tryz.func4, Tryz.ntmps4
  go_wp2
  go_ret
  exact ⟨retB (by simp; try omega), rfl⟩
end Go.Proofs.YtngfhpklakhehaaGreatDoor
