/-
  The statement on SchemeText, walked. No condition but the table that lies laid.
-/
import Derived.Test.YtjnapgkpcmfjbaaDoorKScheme
import Derived.Deep.RegionHeld3
namespace Go.Proofs.YtjnapgkpcmfjbaaDoor
open Go.RowKit
set_option maxHeartbeats 400000

set_option maxHeartbeats 4000000 in
set_option maxRecDepth 100000 in
theorem FnExactSchemeText_walk (s : SV) (x : Sch) (w : World) (hn : s.n1 ≤ 9223372036854775807 ∧ s.n2 ≤ 9223372036854775807 ∧ s.n3 ≤ 9223372036854775807) (hx : SlX w w.heap.size s x) (hz : Hid (BigX x)) (htab : TabW w) :
    Calls Tryd.prog 6 #[s.v] w fun r w' => r = .returned (.bool true) ∧ Below w.heap.size w w' := by
  obtain ⟨A1, n1, c1, A2, n2, c2, A3, n3, c3⟩ := s
  simp only [SV.v] at hn ⊢
  obtain ⟨W0, hW0⟩ : ∃ W0, W0 = w.alloc (.cells #[.slice A1 n1 c1, .slice A2 n2 c2, .slice A3 n3 c3] 48) := ⟨_, rfl⟩
  have e0 : Below w.heap.size w W0 := by rw [hW0]; exact (Below.refl _ _).alloc (Nat.le_refl _) _
  have t0 : W0.cell? ⟨w.heap.size, 0, none⟩ = some (.slice A1 n1 c1) := by rw [hW0]; go_simp
  have t1 : W0.cell? ⟨w.heap.size, 1, none⟩ = some (.slice A2 n2 c2) := by rw [hW0]; go_simp
  have t2 : W0.cell? ⟨w.heap.size, 2, none⟩ = some (.slice A3 n3 c3) := by rw [hW0]; go_simp
  have zz0 : w.heap.size < W0.heap.size := World.block_lt_of_cell? _ _ t0
  have HW0 := hid hW0
  clear hW0
  have hs1 := szScheme_any ⟨A1, n1, c1, A2, n2, c2, A3, n3, c3⟩ x 1048576 W0 w.heap.size e0.size hn.1 hn.2.1 hn.2.2 (by omega) (by omega) (hx.below e0) hz
  simp only [SV.v] at hs1
  by_cases g1 : (1048576 : Int) < ((totX x : Nat) : Int)
  · rw [szF_no g1] at hs1
    clear hx
    go_enter Tryd.func6, Tryd.ntmps6
    go_wp2_with fail
    rw [← HW0.out]
    refine hs1.mono ?_
    rintro r w1 ⟨rfl, b1⟩
    go_wp2_with fail
    go_ret
    exact ⟨rfl, e0.trans (b1.mono e0.size)⟩
  obtain ⟨v, hv, v0⟩ : ∃ v, szF 1048576 (totX x) = v ∧ 0 ≤ v := ⟨_, rfl, by rw [szF_yes (by omega)]; omega⟩
  rw [hv] at hs1
  clear hv
  have HT : Hid (totX x ≤ 1048576) := by unfold Hid; omega
  have hnn : n1 ≤ 2000000 ∧ n2 ≤ 2000000 ∧ n3 ≤ 2000000 := by
    have l1 := hx.st.len
    have l2 := hx.rm.len
    have l3 := hx.wy.len
    have := HT.out
    simp only [totX] at *
    omega
  obtain ⟨hn1, hn2, hn3⟩ := hnn
  have hLX : 0 ≤ lenX x ∧ lenX x ≤ 4000000 := by have := HT.out; simp only [lenX, totX] at *; omega
  obtain ⟨hLX0, hLX1⟩ := hLX
  clear g1 hn
  obtain ⟨F, hF⟩ : ∃ F, F = schemeF x := ⟨_, rfl⟩
  have HS : ∀ (s : SV) (w : World), (s.n1 ≤ 2000000 ∧ s.n2 ≤ 2000000 ∧ s.n3 ≤ 2000000) → SlX w w.heap.size s x → Calls Tryd.prog 19 #[s.v] w (fun r w' => r = .returned (.string F) ∧ Below w.heap.size w w') := fun s w h1 h2 => by have := specSchemeText_any s x w w.heap.size (Nat.le_refl _) h1 h2 hz; rw [← hF] at this; exact this
  have HI : ∀ (s : SV) (w : World), (s.n1 ≤ 2000000 ∧ s.n2 ≤ 2000000 ∧ s.n3 ≤ 2000000) → SlX w w.heap.size s x → TabW w → Calls Tryd.prog 21 #[s.v] w (fun r w' => r = .returned (.string F) ∧ Below w.heap.size w w') := fun s w h1 h2 h3 => by have := implSchemeText_any s x w w.heap.size (Nat.le_refl _) h1 h2 hz h3; rw [← hF] at this; exact this
  clear hF
  have cA := fun W h1 h2 => toScheme_any ⟨A1, n1, c1, A2, n2, c2, A3, n3, c3⟩ x W w.heap.size h1 hn1 hn2 hn3 h2
  simp only [SV.v] at cA
  have cS := fun a b c W h1 => HS ⟨some ⟨a, 0, none⟩, n1, n1, some ⟨b, 0, none⟩, n2, n2, some ⟨c, 0, none⟩, n3, n3⟩ W ⟨hn1, hn2, hn3⟩ h1
  simp only [SV.v] at cS
  have cI := fun a b c W h1 h2 => HI ⟨some ⟨a, 0, none⟩, n1, n1, some ⟨b, 0, none⟩, n2, n2, some ⟨c, 0, none⟩, n3, n3⟩ W ⟨hn1, hn2, hn3⟩ h1 h2
  simp only [SV.v] at cI
  have cE := fun a b c a' b' c' W h1 h2 => eqScheme_yes ⟨some ⟨a, 0, none⟩, n1, n1, some ⟨b, 0, none⟩, n2, n2, some ⟨c, 0, none⟩, n3, n3⟩ ⟨some ⟨a', 0, none⟩, n1, n1, some ⟨b', 0, none⟩, n2, n2, some ⟨c', 0, none⟩, n3, n3⟩ x W W.heap.size (Nat.le_refl _) hn1 hn2 hn3 h1 h2
  simp only [SV.v] at cE
  clear HS HI
  go_enter Tryd.func6, Tryd.ntmps6
  go_wp2_with fail
  rw [← HW0.out]
  refine hs1.mono ?_
  rintro r w1 ⟨rfl, b1⟩
  replace t0 := below_cell t0 b1
  replace t1 := below_cell t1 b1
  replace t2 := below_cell t2 b1
  have z1 := b1.size
  have e1 := e0.trans (b1.mono e0.size)
  clear b1 e0
  go_wp2_with fail
  (with_reducible refine (cA _ e1.size (hx.below e1)).mono ?_)
  rintro r w2 ⟨gaa, gab, gac, rfl, xa, b2⟩
  replace t0 := below_cell t0 b2
  replace t1 := below_cell t1 b2
  replace t2 := below_cell t2 b2
  have z2 := b2.size
  have e2 := e1.trans (b2.mono e1.size)
  clear b2 e1
  go_wp2_with fail
  (with_reducible refine (cS _ _ _ _ xa.sl).mono ?_)
  rintro r w3 ⟨rfl, b3⟩
  replace xa := xa.below b3
  replace t0 := below_cell t0 b3
  replace t1 := below_cell t1 b3
  replace t2 := below_cell t2 b3
  have z3 := b3.size
  have e3 := e2.trans (b3.mono e2.size)
  clear b3 e2
  clear xa
  go_wp2_with fail
  (with_reducible refine (cA _ e3.size (hx.below e3)).mono ?_)
  rintro r w4 ⟨gxa, gxb, gxc, rfl, xx, b4⟩
  replace t0 := below_cell t0 b4
  replace t1 := below_cell t1 b4
  replace t2 := below_cell t2 b4
  have z4 := b4.size
  have e4 := e3.trans (b4.mono e3.size)
  clear b4 e3
  have inx := xx.inX
  obtain ⟨W5, hW5⟩ : ∃ W5, W5 = w4.alloc (.cells #[.slice (some ⟨gxa, 0, none⟩) n1 n1, .slice (some ⟨gxb, 0, none⟩) n2 n2, .slice (some ⟨gxc, 0, none⟩) n3 n3] 53) := ⟨_, rfl⟩
  have a5 : Below w4.heap.size w4 W5 := by rw [hW5]; exact (Below.refl _ _).alloc (Nat.le_refl _) _
  have u0 : W5.cell? ⟨w4.heap.size, 0, none⟩ = some (.slice (some ⟨gxa, 0, none⟩) n1 n1) := by rw [hW5]; exact (World.cell?_alloc_at _ _ _ _ rfl).trans rfl
  have u1 : W5.cell? ⟨w4.heap.size, 1, none⟩ = some (.slice (some ⟨gxb, 0, none⟩) n2 n2) := by rw [hW5]; exact (World.cell?_alloc_at _ _ _ _ rfl).trans rfl
  have u2 : W5.cell? ⟨w4.heap.size, 2, none⟩ = some (.slice (some ⟨gxc, 0, none⟩) n3 n3) := by rw [hW5]; exact (World.cell?_alloc_at _ _ _ _ rfl).trans rfl
  have zz5 : w4.heap.size < W5.heap.size := World.block_lt_of_cell? _ _ u0
  have HW5 := hid hW5
  clear hW5
  have lt_t0 := World.block_lt_of_cell? _ _ t0
  simp only at lt_t0
  go_wp2_with fail
  rw [← HW5.out]
  clear lt_t0
  replace xx := xx.below a5
  replace t0 := below_cell t0 a5
  replace t1 := below_cell t1 a5
  replace t2 := below_cell t2 a5
  have z5 := a5.size
  have e5 := e4.trans (a5.mono e4.size)
  clear a5 e4
  (with_reducible refine (cI _ _ _ _ xx.sl (htab.below e5)).mono ?_)
  rintro r w6 ⟨rfl, b6⟩
  replace xx := xx.below b6
  replace t0 := below_cell t0 b6
  replace t1 := below_cell t1 b6
  replace t2 := below_cell t2 b6
  replace u0 := below_cell u0 b6
  replace u1 := below_cell u1 b6
  replace u2 := below_cell u2 b6
  have z6 := b6.size
  have e6 := e5.trans (b6.mono e5.size)
  clear b6 e5
  go_wp2_with fail
  go_region_held3 (fun W => W.cell? ⟨w.heap.size, 0, none⟩ = some (.slice A1 n1 c1) ∧ W.cell? ⟨w.heap.size, 1, none⟩ = some (.slice A2 n2 c2) ∧ W.cell? ⟨w.heap.size, 2, none⟩ = some (.slice A3 n3 c3) ∧ W.cell? ⟨w4.heap.size, 0, none⟩ = some (.slice (some ⟨gxa, 0, none⟩) n1 n1) ∧ W.cell? ⟨w4.heap.size, 1, none⟩ = some (.slice (some ⟨gxb, 0, none⟩) n2 n2) ∧ W.cell? ⟨w4.heap.size, 2, none⟩ = some (.slice (some ⟨gxc, 0, none⟩) n3 n3))
    (first
      | go_keep
      | (go_split_ands; refine ⟨below_cell (by assumption) bF, below_cell (by assumption) bF, below_cell (by assumption) bF, below_cell (by assumption) bF, below_cell (by assumption) bF, below_cell (by assumption) bF⟩)
      | (go_split_ands; refine ⟨below_cell (by assumption) bE, below_cell (by assumption) bE, below_cell (by assumption) bE, below_cell (by assumption) bE, below_cell (by assumption) bE, below_cell (by assumption) bE⟩))
    (first
      | (go_at_call 20; (with_reducible refine (cA _ e6.drew.size (hx.below e6.drew)).mono ?_); rintro r wE ⟨gya, gyb, gyc, rfl, xy, bE⟩)
      | (go_at_call 22; (with_reducible refine (cE _ _ _ _ _ _ _ ((xx.below (w' := w6.drew) ((Below.refl _ _).drew)).below bE).sl xy.sl).mono ?_); rintro r wF ⟨rfl, bF⟩))
  have q1 : Below w6.heap.size w6 wE := (Below.refl _ _).drew.trans (bE.mono (by simp))
  have q2 := q1.trans (bF.mono q1.size)
  replace xx := xx.below q2
  replace t0 := below_cell t0 q2
  replace t1 := below_cell t1 q2
  replace t2 := below_cell t2 q2
  replace u0 := below_cell u0 q2
  replace u1 := below_cell u1 q2
  replace u2 := below_cell u2 q2
  have zF := q2.size
  have eF := e6.trans (q2.mono e6.size)
  clear bE bF xy q1 q2 e6
  go_wp2_with fail
  go_ret
  exact ⟨rfl, eF⟩
end Go.Proofs.YtjnapgkpcmfjbaaDoor
