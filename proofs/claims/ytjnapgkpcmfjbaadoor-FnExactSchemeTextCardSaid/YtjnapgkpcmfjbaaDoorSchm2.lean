/-
  Schemes: comparisons, marks; how one that comes in reads. No condition.
-/
import Derived.Test.YtjnapgkpcmfjbaaDoorSchm
import Derived.Lib.SmallJoins
namespace Go.Proofs.YtjnapgkpcmfjbaaDoor
open Go.RowKit Go.ChangeShapes Go.WideShapes Go.ChangeAt Go.Deep Go.Joins
set_option maxHeartbeats 400000

def InX (s : SV) (lo hi : Nat) : Prop := ∀ b, ((Value.slice s.A1 s.n1 s.c1).ownBlock = some b ∨ (Value.slice s.A2 s.n2 s.c2).ownBlock = some b ∨ (Value.slice s.A3 s.n3 s.c3).ownBlock = some b) → lo ≤ b ∧ b < hi
theorem OwnX.inX {w : World} {lo : Nat} {s : SV} {x : Sch} (h : OwnX w lo s x) : InX s lo w.heap.size := fun b hb => by
  rcases hb with hb | hb | hb
  · exact h.st.lt b hb
  · exact h.rm.lt b hb
  · exact h.wy.lt b hb
set_option maxHeartbeats 1000000 in
theorem eqScheme_yes (s t : SV) (x : Sch) (w : World) (B : Nat) (hB : B ≤ w.heap.size) (hn1 : s.n1 ≤ 2000000) (hn2 : s.n2 ≤ 2000000) (hn3 : s.n3 ≤ 2000000) (hx : SlX w B s x) (hy : SlX w B t x) :
    Calls Tryd.prog 22 #[s.v, t.v] w fun e w' => e = .returned (.bool true) ∧ Below w.heap.size w w' := by
  obtain ⟨A1, n1, c1, A2, n2, c2, A3, n3, c3⟩ := s
  obtain ⟨A1', n1', c1', A2', n2', c2', A3', n3', c3'⟩ := t
  simp only [SV.v] at hn1 hn2 hn3 ⊢
  obtain ⟨W0, hW0⟩ : ∃ W0, W0 = (w.alloc (.cells #[.slice A1 n1 c1, .slice A2 n2 c2, .slice A3 n3 c3] 53)).alloc (.cells #[.slice A1' n1' c1', .slice A2' n2' c2', .slice A3' n3' c3'] 53) := ⟨_, rfl⟩
  have b0 : Below w.heap.size w W0 := by rw [hW0]; exact ((Below.refl _ _).alloc (Nat.le_refl _) _).alloc (by simp) _
  have k1 : W0.cell? ⟨w.heap.size, 1, none⟩ = some (.slice A2 n2 c2) := by rw [hW0]; go_simp
  have k2 : W0.cell? ⟨w.heap.size, 2, none⟩ = some (.slice A3 n3 c3) := by rw [hW0]; go_simp
  have l1 : W0.cell? ⟨w.heap.size + 1, 1, none⟩ = some (.slice A2' n2' c2') := by rw [hW0]; go_simp
  have l2 : W0.cell? ⟨w.heap.size + 1, 2, none⟩ = some (.slice A3' n3' c3') := by rw [hW0]; go_simp
  have HW := hid hW0
  have t1 := eqStringS_yes A1 n1 c1 A1' n1' c1' W0 B (Nat.le_trans hB b0.size) x.st hn1 (hx.st.below (b0.mono hB)) (hy.st.below (b0.mono hB))
  clear hW0
  go_enter Tryd.func22, Tryd.ntmps22
  go_wp2_with fail
  rw [← HW.out]
  refine t1.mono ?_
  rintro r w1 ⟨rfl, b1⟩
  replace k1 := below_cell k1 b1
  replace k2 := below_cell k2 b1
  replace l1 := below_cell l1 b1
  replace l2 := below_cell l2 b1
  replace b1 := b0.trans (b1.mono b0.size)
  go_wp2_with fail
  refine (eqStringS_yes A2 n2 c2 A2' n2' c2' _ B (Nat.le_trans hB b1.size) x.rm hn2 (hx.rm.below (b1.mono hB)) (hy.rm.below (b1.mono hB))).mono ?_
  rintro r w2 ⟨rfl, b2⟩
  replace k2 := below_cell k2 b2
  replace l2 := below_cell l2 b2
  replace b2 := b1.trans (b2.mono b1.size)
  go_wp2_with fail
  refine (eqWayS_yes A3 n3 c3 A3' n3' c3' _ B (Nat.le_trans hB b2.size) x.wy hn3 (hx.wy.below (b2.mono hB)) (hy.wy.below (b2.mono hB))).mono ?_
  rintro r w3 ⟨rfl, b3⟩
  go_wp2_with fail
  go_ret
  exact ⟨rfl, b2.trans (b3.mono b2.size)⟩
set_option maxRecDepth 100000 in
theorem open_Scheme {H : Type} {enc : TypeId × Value → H} {W : World} {base : Nat} {v : Value} {d : DataW H} {p : List MemPlace} (hv : Value.okWide Tryd.prog W .any base 48 v)
    (h : DataW.Trod enc Tryd.prog W 0 (fun _ => true) true 48 v d p) : ∃ (s : SV) (x : Sch), v = s.v ∧ (s.n1 ≤ 9223372036854775807 ∧ s.n2 ≤ 9223372036854775807 ∧ s.n3 ≤ 9223372036854775807) ∧ SlX W W.heap.size s x ∧ Hid (BigX x) := by
  obtain ⟨v0, v1, v2, y0, y1, y2, m, rfl, _, _, h0, h1, h2⟩ := open_agg3 Tryd.underlying48 (by kernel_rfl) (by kernel_rfl) hv h
  obtain ⟨A1, n1, c1, xs1, e0, hn1, hx1, hz1⟩ := open_Strs rfl h0
  obtain ⟨A2, n2, c2, xs2, e1, hn2, hx2, hz2⟩ := open_Strs rfl h1
  obtain ⟨A3, n3, c3, xs3, e2, hn3, hx3, hz3⟩ := open_WayS rfl h2
  simp only [List.cons.injEq, and_true] at e0 e1 e2
  subst e0 e1 e2
  exact ⟨⟨A1, n1, c1, A2, n2, c2, A3, n3, c3⟩, ⟨xs1, xs2, xs3⟩, rfl, ⟨hn1, hn2, hn3⟩, ⟨hx1, hx2, hx3⟩, hid ⟨hz1, hz2, hz3⟩⟩
end Go.Proofs.YtjnapgkpcmfjbaaDoor
