/-
  The statement on SameScheme, walked. No condition.
-/
import Derived.Test.YteglnopcbnpbcaaSSame
import Derived.Deep.RegionHeld3
namespace Go.Proofs.Yteglnopcbnpbcaa
open Go.RowKit
set_option maxHeartbeats 400000

set_option maxHeartbeats 4000000 in
set_option maxRecDepth 100000 in
theorem FnExactSameScheme_walk (s t : SV) (x y : Sch) (w : World) (hn : s.n1 ≤ 9223372036854775807 ∧ s.n2 ≤ 9223372036854775807 ∧ s.n3 ≤ 9223372036854775807) (hm : t.n1 ≤ 9223372036854775807 ∧ t.n2 ≤ 9223372036854775807 ∧ t.n3 ≤ 9223372036854775807)
    (hx : SlX w w.heap.size s x) (hy : SlX w w.heap.size t y) (hz : Hid (BigX x)) (hz' : Hid (BigX y)) :
    Calls Try.prog 3 #[s.v, t.v] w fun r w' => r = .returned (.bool true) ∧ Below w.heap.size w w' := by
  obtain ⟨A1, n1, c1, A2, n2, c2, A3, n3, c3⟩ := s
  obtain ⟨A1', n1', c1', A2', n2', c2', A3', n3', c3'⟩ := t
  simp only [SV.v] at hn hm ⊢
  obtain ⟨W0, hW0⟩ : ∃ W0, W0 = (w.alloc (.cells #[.slice A1 n1 c1, .slice A2 n2 c2, .slice A3 n3 c3] 25)).alloc (.cells #[.slice A1' n1' c1', .slice A2' n2' c2', .slice A3' n3' c3'] 25) := ⟨_, rfl⟩
  have e0 : Below w.heap.size w W0 := by rw [hW0]; exact ((Below.refl _ _).alloc (Nat.le_refl _) _).alloc (by simp) _
  have t0 : W0.cell? ⟨w.heap.size, 0, none⟩ = some (.slice A1 n1 c1) := by rw [hW0]; go_simp
  have t1 : W0.cell? ⟨w.heap.size, 1, none⟩ = some (.slice A2 n2 c2) := by rw [hW0]; go_simp
  have t2 : W0.cell? ⟨w.heap.size, 2, none⟩ = some (.slice A3 n3 c3) := by rw [hW0]; go_simp
  have u0 : W0.cell? ⟨w.heap.size + 1, 0, none⟩ = some (.slice A1' n1' c1') := by rw [hW0]; go_simp
  have u1 : W0.cell? ⟨w.heap.size + 1, 1, none⟩ = some (.slice A2' n2' c2') := by rw [hW0]; go_simp
  have u2 : W0.cell? ⟨w.heap.size + 1, 2, none⟩ = some (.slice A3' n3' c3') := by rw [hW0]; go_simp
  have HW0 := hid hW0
  clear hW0
  have hs1 := szScheme_any ⟨A1, n1, c1, A2, n2, c2, A3, n3, c3⟩ x 1048576 W0 w.heap.size e0.size hn.1 hn.2.1 hn.2.2 (by omega) (by omega) (hx.below e0) hz
  simp only [SV.v] at hs1
  by_cases g1 : (1048576 : Int) < ((totX x : Nat) : Int)
  · rw [szF_no g1] at hs1
    clear hx hy
    go_enter Try.func3, Try.ntmps3
    go_wp2_with fail
    rw [← HW0.out]
    refine hs1.mono ?_
    rintro r w1 ⟨rfl, b1⟩
    go_wp2_with fail
    go_ret
    exact ⟨rfl, e0.trans (b1.mono e0.size)⟩
  obtain ⟨v, hv, v0, v1⟩ : ∃ v, szF 1048576 (totX x) = v ∧ 0 ≤ v ∧ v ≤ 1048576 := ⟨_, rfl, by rw [szF_yes (by omega)]; omega, by rw [szF_yes (by omega)]; omega⟩
  rw [hv] at hs1
  clear hv
  have hs2 := fun W h1 h2 => szScheme_any ⟨A1', n1', c1', A2', n2', c2', A3', n3', c3'⟩ y v W w.heap.size h1 hm.1 hm.2.1 hm.2.2 v0 v1 h2 hz'
  simp only [SV.v] at hs2
  have HT : Hid (totX x ≤ 1048576) := by unfold Hid; omega
  by_cases g2 : v < ((totX y : Nat) : Int)
  · rw [szF_no g2] at hs2
    clear hx
    go_enter Try.func3, Try.ntmps3
    go_wp2_with fail
    rw [← HW0.out]
    refine hs1.mono ?_
    rintro r w1 ⟨rfl, b1⟩
    replace t0 := below_cell t0 b1
    replace t1 := below_cell t1 b1
    replace t2 := below_cell t2 b1
    replace u0 := below_cell u0 b1
    replace u1 := below_cell u1 b1
    replace u2 := below_cell u2 b1
    replace b1 := e0.trans (b1.mono e0.size)
    go_wp2_with fail
    refine (hs2 _ b1.size (hy.below b1)).mono ?_
    rintro r w2 ⟨rfl, b2⟩
    go_wp2_with fail
    go_ret
    exact ⟨rfl, b1.trans (b2.mono b1.size)⟩
  obtain ⟨v2, hv2, v3⟩ : ∃ v2, szF v (totX y) = v2 ∧ 0 ≤ v2 := ⟨_, rfl, by rw [szF_yes (by omega)]; omega⟩
  rw [hv2] at hs2
  clear hv2
  have HT' : Hid (totX y ≤ 1048576) := by unfold Hid; omega
  have hnn : n1 ≤ 2000000 ∧ n2 ≤ 2000000 ∧ n3 ≤ 2000000 := by
    have l1 := hx.st.len
    have l2 := hx.rm.len
    have l3 := hx.wy.len
    have := HT.out
    simp only [totX] at *
    omega
  obtain ⟨hn1, hn2, hn3⟩ := hnn
  have hnn' : n1' ≤ 2000000 ∧ n2' ≤ 2000000 ∧ n3' ≤ 2000000 := by
    have l1 := hy.st.len
    have l2 := hy.rm.len
    have l3 := hy.wy.len
    have := HT'.out
    simp only [totX] at *
    omega
  obtain ⟨hn1', hn2', hn3'⟩ := hnn'
  clear g1 g2 hn hm
  generalize hR : sameX x y = r1
  have HS : ∀ (s t : SV) (w : World), (s.n1 ≤ 2000000 ∧ s.n2 ≤ 2000000 ∧ s.n3 ≤ 2000000) → (t.n1 ≤ 2000000 ∧ t.n2 ≤ 2000000 ∧ t.n3 ≤ 2000000) → SlX w w.heap.size s x → SlX w w.heap.size t y → Calls Try.prog 14 #[s.v, t.v] w (fun r w' => r = .returned (.bool r1) ∧ Below w.heap.size w w') := fun s t w h1 h2 h3 h4 => by have := specSameScheme_any s t x y w w.heap.size (Nat.le_refl _) h1 h2 h3 h4; rw [hR] at this; exact this
  have HI : ∀ (s t : SV) (w : World), (s.n1 ≤ 2000000 ∧ s.n2 ≤ 2000000 ∧ s.n3 ≤ 2000000) → (t.n1 ≤ 2000000 ∧ t.n2 ≤ 2000000 ∧ t.n3 ≤ 2000000) → SlX w w.heap.size s x → SlX w w.heap.size t y → Calls Try.prog 16 #[s.v, t.v] w (fun r w' => r = .returned (.bool r1) ∧ Below w.heap.size w w') := fun s t w h1 h2 h3 h4 => by have := implSameScheme_any s t x y w w.heap.size (Nat.le_refl _) h1 h2 h3 h4; rw [hR] at this; exact this
  clear hR
  have cA := fun W h1 h2 => toScheme_any ⟨A1, n1, c1, A2, n2, c2, A3, n3, c3⟩ x W w.heap.size h1 hn1 hn2 hn3 h2
  simp only [SV.v] at cA
  have cB := fun W h1 h2 => toScheme_any ⟨A1', n1', c1', A2', n2', c2', A3', n3', c3'⟩ y W w.heap.size h1 hn1' hn2' hn3' h2
  simp only [SV.v] at cB
  have cS := fun a b c a' b' c' W h1 h2 => HS ⟨some ⟨a, 0, none⟩, n1, n1, some ⟨b, 0, none⟩, n2, n2, some ⟨c, 0, none⟩, n3, n3⟩ ⟨some ⟨a', 0, none⟩, n1', n1', some ⟨b', 0, none⟩, n2', n2', some ⟨c', 0, none⟩, n3', n3'⟩ W ⟨hn1, hn2, hn3⟩ ⟨hn1', hn2', hn3'⟩ h1 h2
  simp only [SV.v] at cS
  have cI := fun a b c a' b' c' W h1 h2 => HI ⟨some ⟨a, 0, none⟩, n1, n1, some ⟨b, 0, none⟩, n2, n2, some ⟨c, 0, none⟩, n3, n3⟩ ⟨some ⟨a', 0, none⟩, n1', n1', some ⟨b', 0, none⟩, n2', n2', some ⟨c', 0, none⟩, n3', n3'⟩ W ⟨hn1, hn2, hn3⟩ ⟨hn1', hn2', hn3'⟩ h1 h2
  simp only [SV.v] at cI
  have cE := fun a b c a' b' c' W h1 h2 => eqScheme_yes ⟨some ⟨a, 0, none⟩, n1, n1, some ⟨b, 0, none⟩, n2, n2, some ⟨c, 0, none⟩, n3, n3⟩ ⟨some ⟨a', 0, none⟩, n1, n1, some ⟨b', 0, none⟩, n2, n2, some ⟨c', 0, none⟩, n3, n3⟩ x W W.heap.size (Nat.le_refl _) hn1 hn2 hn3 h1 h2
  simp only [SV.v] at cE
  have cF := fun a b c a' b' c' W h1 h2 => eqScheme_yes ⟨some ⟨a, 0, none⟩, n1', n1', some ⟨b, 0, none⟩, n2', n2', some ⟨c, 0, none⟩, n3', n3'⟩ ⟨some ⟨a', 0, none⟩, n1', n1', some ⟨b', 0, none⟩, n2', n2', some ⟨c', 0, none⟩, n3', n3'⟩ y W W.heap.size (Nat.le_refl _) hn1' hn2' hn3' h1 h2
  simp only [SV.v] at cF
  clear HS HI
  go_enter Try.func3, Try.ntmps3
  go_wp2_with fail
  rw [← HW0.out]
  refine (hs1).mono ?_
  rintro r w1 ⟨rfl, b1⟩
  replace t0 := below_cell t0 b1
  replace t1 := below_cell t1 b1
  replace t2 := below_cell t2 b1
  replace u0 := below_cell u0 b1
  replace u1 := below_cell u1 b1
  replace u2 := below_cell u2 b1
  have z1 := b1.size
  have e1 := e0.trans (b1.mono e0.size)
  clear b1 e0
  go_wp2_with fail
  refine (hs2 _ e1.size (hy.below e1)).mono ?_
  rintro r w2 ⟨rfl, b2⟩
  replace t0 := below_cell t0 b2
  replace t1 := below_cell t1 b2
  replace t2 := below_cell t2 b2
  replace u0 := below_cell u0 b2
  replace u1 := below_cell u1 b2
  replace u2 := below_cell u2 b2
  have z2 := b2.size
  have e2 := e1.trans (b2.mono e1.size)
  clear b2 e1
  go_wp2_with fail
  go_region_held3 (fun W => W.cell? ⟨w.heap.size, 0, none⟩ = some (.slice A1 n1 c1) ∧ W.cell? ⟨w.heap.size, 1, none⟩ = some (.slice A2 n2 c2) ∧ W.cell? ⟨w.heap.size, 2, none⟩ = some (.slice A3 n3 c3) ∧ W.cell? ⟨w.heap.size + 1, 0, none⟩ = some (.slice A1' n1' c1') ∧ W.cell? ⟨w.heap.size + 1, 1, none⟩ = some (.slice A2' n2' c2') ∧ W.cell? ⟨w.heap.size + 1, 2, none⟩ = some (.slice A3' n3' c3'))
    (first
      | go_keep
      | (go_split_ands; refine ⟨below_cell (by assumption) bS, below_cell (by assumption) bS, below_cell (by assumption) bS, below_cell (by assumption) bS, below_cell (by assumption) bS, below_cell (by assumption) bS⟩)
      | (go_split_ands; refine ⟨below_cell (by assumption) bB, below_cell (by assumption) bB, below_cell (by assumption) bB, below_cell (by assumption) bB, below_cell (by assumption) bB, below_cell (by assumption) bB⟩)
      | (go_split_ands; refine ⟨below_cell (by assumption) bA, below_cell (by assumption) bA, below_cell (by assumption) bA, below_cell (by assumption) bA, below_cell (by assumption) bA, below_cell (by assumption) bA⟩))
    (first
      | ((go_at_call 15; (with_reducible refine (cA _ e2.drew.size (hx.below e2.drew)).mono ?_); rintro r wA ⟨gAa, gAb, gAc, rfl, xA, bA⟩))
      | ((go_at_call 15; (with_reducible refine (cB _ (e2.drew.trans (bA.mono e2.drew.size)).size (hy.below (e2.drew.trans (bA.mono e2.drew.size)))).mono ?_); rintro r wB ⟨gBa, gBb, gBc, rfl, xB, bB⟩))
      | ((go_at_call 14; (with_reducible refine (cS _ _ _ _ _ _ _ (xA.below bB).sl xB.sl).mono ?_); rintro r wS ⟨rfl, bS⟩)))
  have q1 : Below w2.heap.size w2 wA := (Below.refl _ _).drew.trans (bA.mono (by simp))
  have q2 := (q1.trans (bB.mono q1.size)).trans (bS.mono (by have := q1.size; have := bB.size; omega))
  replace t0 := below_cell t0 q2
  replace t1 := below_cell t1 q2
  replace t2 := below_cell t2 q2
  replace u0 := below_cell u0 q2
  replace u1 := below_cell u1 q2
  replace u2 := below_cell u2 q2
  have eS := e2.trans (q2.mono e2.size)
  clear bA bB bS xA xB q1 q2 e2
  go_wp2_with fail
  refine (cA _ eS.size (hx.below eS)).mono ?_
  rintro r w3 ⟨gxa, gxb, gxc, rfl, xx, b3⟩
  replace t0 := below_cell t0 b3
  replace t1 := below_cell t1 b3
  replace t2 := below_cell t2 b3
  replace u0 := below_cell u0 b3
  replace u1 := below_cell u1 b3
  replace u2 := below_cell u2 b3
  have z3 := b3.size
  have e3 := eS.trans (b3.mono eS.size)
  clear b3 eS
  obtain ⟨W4, hW4⟩ : ∃ W4, W4 = w3.alloc (.cells #[.slice (some ⟨gxa, 0, none⟩) n1 n1, .slice (some ⟨gxb, 0, none⟩) n2 n2, .slice (some ⟨gxc, 0, none⟩) n3 n3] 30) := ⟨_, rfl⟩
  have a4 : Below w3.heap.size w3 W4 := by rw [hW4]; exact (Below.refl _ _).alloc (Nat.le_refl _) _
  have pp0 : W4.cell? ⟨w3.heap.size, 0, none⟩ = some (.slice (some ⟨gxa, 0, none⟩) n1 n1) := by rw [hW4]; exact (World.cell?_alloc_at _ _ _ _ rfl).trans rfl
  have pp1 : W4.cell? ⟨w3.heap.size, 1, none⟩ = some (.slice (some ⟨gxb, 0, none⟩) n2 n2) := by rw [hW4]; exact (World.cell?_alloc_at _ _ _ _ rfl).trans rfl
  have pp2 : W4.cell? ⟨w3.heap.size, 2, none⟩ = some (.slice (some ⟨gxc, 0, none⟩) n3 n3) := by rw [hW4]; exact (World.cell?_alloc_at _ _ _ _ rfl).trans rfl
  have HW4 := hid hW4
  clear hW4
  have lt_t0 := World.block_lt_of_cell? _ _ t0
  simp only at lt_t0
  have lt_u0 := World.block_lt_of_cell? _ _ u0
  simp only at lt_u0
  go_wp2_with fail
  rw [← HW4.out]
  clear lt_t0 lt_u0
  replace xx := xx.below a4
  replace t0 := below_cell t0 a4
  replace t1 := below_cell t1 a4
  replace t2 := below_cell t2 a4
  replace u0 := below_cell u0 a4
  replace u1 := below_cell u1 a4
  replace u2 := below_cell u2 a4
  have z4 := a4.size
  have e4 := e3.trans (a4.mono e3.size)
  clear a4 e3
  refine (cB _ e4.size (hy.below e4)).mono ?_
  rintro r w5 ⟨gya, gyb, gyc, rfl, xy, b5⟩
  replace xx := xx.below b5
  replace t0 := below_cell t0 b5
  replace t1 := below_cell t1 b5
  replace t2 := below_cell t2 b5
  replace u0 := below_cell u0 b5
  replace u1 := below_cell u1 b5
  replace u2 := below_cell u2 b5
  replace pp0 := below_cell pp0 b5
  replace pp1 := below_cell pp1 b5
  replace pp2 := below_cell pp2 b5
  have z5 := b5.size
  have e5 := e4.trans (b5.mono e4.size)
  clear b5 e4
  obtain ⟨W6, hW6⟩ : ∃ W6, W6 = w5.alloc (.cells #[.slice (some ⟨gya, 0, none⟩) n1' n1', .slice (some ⟨gyb, 0, none⟩) n2' n2', .slice (some ⟨gyc, 0, none⟩) n3' n3'] 30) := ⟨_, rfl⟩
  have a6 : Below w5.heap.size w5 W6 := by rw [hW6]; exact (Below.refl _ _).alloc (Nat.le_refl _) _
  have qq0 : W6.cell? ⟨w5.heap.size, 0, none⟩ = some (.slice (some ⟨gya, 0, none⟩) n1' n1') := by rw [hW6]; exact (World.cell?_alloc_at _ _ _ _ rfl).trans rfl
  have qq1 : W6.cell? ⟨w5.heap.size, 1, none⟩ = some (.slice (some ⟨gyb, 0, none⟩) n2' n2') := by rw [hW6]; exact (World.cell?_alloc_at _ _ _ _ rfl).trans rfl
  have qq2 : W6.cell? ⟨w5.heap.size, 2, none⟩ = some (.slice (some ⟨gyc, 0, none⟩) n3' n3') := by rw [hW6]; exact (World.cell?_alloc_at _ _ _ _ rfl).trans rfl
  have HW6 := hid hW6
  clear hW6
  have lt_t0 := World.block_lt_of_cell? _ _ t0
  simp only at lt_t0
  have lt_u0 := World.block_lt_of_cell? _ _ u0
  simp only at lt_u0
  have lt_pp0 := World.block_lt_of_cell? _ _ pp0
  simp only at lt_pp0
  go_wp2_with fail
  rw [← HW6.out]
  clear lt_t0 lt_u0 lt_pp0
  replace xx := xx.below a6
  replace xy := xy.below a6
  replace t0 := below_cell t0 a6
  replace t1 := below_cell t1 a6
  replace t2 := below_cell t2 a6
  replace u0 := below_cell u0 a6
  replace u1 := below_cell u1 a6
  replace u2 := below_cell u2 a6
  replace pp0 := below_cell pp0 a6
  replace pp1 := below_cell pp1 a6
  replace pp2 := below_cell pp2 a6
  have z6 := a6.size
  have e6 := e5.trans (a6.mono e5.size)
  clear a6 e5
  refine (cI _ _ _ _ _ _ _ xx.sl xy.sl).mono ?_
  rintro r w7 ⟨rfl, b7⟩
  replace xx := xx.below b7
  replace xy := xy.below b7
  replace t0 := below_cell t0 b7
  replace t1 := below_cell t1 b7
  replace t2 := below_cell t2 b7
  replace u0 := below_cell u0 b7
  replace u1 := below_cell u1 b7
  replace u2 := below_cell u2 b7
  replace pp0 := below_cell pp0 b7
  replace pp1 := below_cell pp1 b7
  replace pp2 := below_cell pp2 b7
  replace qq0 := below_cell qq0 b7
  replace qq1 := below_cell qq1 b7
  replace qq2 := below_cell qq2 b7
  have z7 := b7.size
  have e7 := e6.trans (b7.mono e6.size)
  clear b7 e6
  go_wp2_with fail
  go_region_held3 (fun W => W.cell? ⟨w.heap.size, 0, none⟩ = some (.slice A1 n1 c1) ∧ W.cell? ⟨w.heap.size, 1, none⟩ = some (.slice A2 n2 c2) ∧ W.cell? ⟨w.heap.size, 2, none⟩ = some (.slice A3 n3 c3) ∧ W.cell? ⟨w.heap.size + 1, 0, none⟩ = some (.slice A1' n1' c1') ∧ W.cell? ⟨w.heap.size + 1, 1, none⟩ = some (.slice A2' n2' c2') ∧ W.cell? ⟨w.heap.size + 1, 2, none⟩ = some (.slice A3' n3' c3') ∧ W.cell? ⟨w3.heap.size, 0, none⟩ = some (.slice (some ⟨gxa, 0, none⟩) n1 n1) ∧ W.cell? ⟨w3.heap.size, 1, none⟩ = some (.slice (some ⟨gxb, 0, none⟩) n2 n2) ∧ W.cell? ⟨w3.heap.size, 2, none⟩ = some (.slice (some ⟨gxc, 0, none⟩) n3 n3) ∧ W.cell? ⟨w5.heap.size, 0, none⟩ = some (.slice (some ⟨gya, 0, none⟩) n1' n1') ∧ W.cell? ⟨w5.heap.size, 1, none⟩ = some (.slice (some ⟨gyb, 0, none⟩) n2' n2') ∧ W.cell? ⟨w5.heap.size, 2, none⟩ = some (.slice (some ⟨gyc, 0, none⟩) n3' n3'))
    (first
      | go_keep
      | (go_split_ands; refine ⟨below_cell (by assumption) bF1, below_cell (by assumption) bF1, below_cell (by assumption) bF1, below_cell (by assumption) bF1, below_cell (by assumption) bF1, below_cell (by assumption) bF1, below_cell (by assumption) bF1, below_cell (by assumption) bF1, below_cell (by assumption) bF1, below_cell (by assumption) bF1, below_cell (by assumption) bF1, below_cell (by assumption) bF1⟩)
      | (go_split_ands; refine ⟨below_cell (by assumption) bE1, below_cell (by assumption) bE1, below_cell (by assumption) bE1, below_cell (by assumption) bE1, below_cell (by assumption) bE1, below_cell (by assumption) bE1, below_cell (by assumption) bE1, below_cell (by assumption) bE1, below_cell (by assumption) bE1, below_cell (by assumption) bE1, below_cell (by assumption) bE1, below_cell (by assumption) bE1⟩))
    (first
      | ((go_at_call 15; (with_reducible refine (cA _ e7.drew.size (hx.below e7.drew)).mono ?_); rintro r wE1 ⟨gE1a, gE1b, gE1c, rfl, xE1, bE1⟩))
      | ((go_at_call 17; (with_reducible refine (cE _ _ _ _ _ _ _ ((xx.below (w' := w7.drew) ((Below.refl _ _).drew)).below bE1).sl xE1.sl).mono ?_); rintro r wF1 ⟨rfl, bF1⟩)))
  have q1 : Below w7.heap.size w7 wE1 := (Below.refl _ _).drew.trans (bE1.mono (by simp))
  have q2 := q1.trans (bF1.mono q1.size)
  replace xx := xx.below q2
  replace xy := xy.below q2
  replace t0 := below_cell t0 q2
  replace t1 := below_cell t1 q2
  replace t2 := below_cell t2 q2
  replace u0 := below_cell u0 q2
  replace u1 := below_cell u1 q2
  replace u2 := below_cell u2 q2
  replace pp0 := below_cell pp0 q2
  replace pp1 := below_cell pp1 q2
  replace pp2 := below_cell pp2 q2
  replace qq0 := below_cell qq0 q2
  replace qq1 := below_cell qq1 q2
  replace qq2 := below_cell qq2 q2
  have eF1 := e7.trans (q2.mono e7.size)
  clear bE1 bF1 xE1 q1 q2 e7
  go_wp2_with fail
  go_region_held3 (fun W => W.cell? ⟨w.heap.size, 0, none⟩ = some (.slice A1 n1 c1) ∧ W.cell? ⟨w.heap.size, 1, none⟩ = some (.slice A2 n2 c2) ∧ W.cell? ⟨w.heap.size, 2, none⟩ = some (.slice A3 n3 c3) ∧ W.cell? ⟨w.heap.size + 1, 0, none⟩ = some (.slice A1' n1' c1') ∧ W.cell? ⟨w.heap.size + 1, 1, none⟩ = some (.slice A2' n2' c2') ∧ W.cell? ⟨w.heap.size + 1, 2, none⟩ = some (.slice A3' n3' c3') ∧ W.cell? ⟨w3.heap.size, 0, none⟩ = some (.slice (some ⟨gxa, 0, none⟩) n1 n1) ∧ W.cell? ⟨w3.heap.size, 1, none⟩ = some (.slice (some ⟨gxb, 0, none⟩) n2 n2) ∧ W.cell? ⟨w3.heap.size, 2, none⟩ = some (.slice (some ⟨gxc, 0, none⟩) n3 n3) ∧ W.cell? ⟨w5.heap.size, 0, none⟩ = some (.slice (some ⟨gya, 0, none⟩) n1' n1') ∧ W.cell? ⟨w5.heap.size, 1, none⟩ = some (.slice (some ⟨gyb, 0, none⟩) n2' n2') ∧ W.cell? ⟨w5.heap.size, 2, none⟩ = some (.slice (some ⟨gyc, 0, none⟩) n3' n3'))
    (first
      | go_keep
      | (go_split_ands; refine ⟨below_cell (by assumption) bF2, below_cell (by assumption) bF2, below_cell (by assumption) bF2, below_cell (by assumption) bF2, below_cell (by assumption) bF2, below_cell (by assumption) bF2, below_cell (by assumption) bF2, below_cell (by assumption) bF2, below_cell (by assumption) bF2, below_cell (by assumption) bF2, below_cell (by assumption) bF2, below_cell (by assumption) bF2⟩)
      | (go_split_ands; refine ⟨below_cell (by assumption) bE2, below_cell (by assumption) bE2, below_cell (by assumption) bE2, below_cell (by assumption) bE2, below_cell (by assumption) bE2, below_cell (by assumption) bE2, below_cell (by assumption) bE2, below_cell (by assumption) bE2, below_cell (by assumption) bE2, below_cell (by assumption) bE2, below_cell (by assumption) bE2, below_cell (by assumption) bE2⟩))
    (first
      | ((go_at_call 15; (with_reducible refine (cB _ eF1.drew.size (hy.below eF1.drew)).mono ?_); rintro r wE2 ⟨gE2a, gE2b, gE2c, rfl, xE2, bE2⟩))
      | ((go_at_call 17; (with_reducible refine (cF _ _ _ _ _ _ _ ((xy.below (w' := wF1.drew) ((Below.refl _ _).drew)).below bE2).sl xE2.sl).mono ?_); rintro r wF2 ⟨rfl, bF2⟩)))
  have q1 : Below wF1.heap.size wF1 wE2 := (Below.refl _ _).drew.trans (bE2.mono (by simp))
  have q2 := q1.trans (bF2.mono q1.size)
  replace xx := xx.below q2
  replace xy := xy.below q2
  replace t0 := below_cell t0 q2
  replace t1 := below_cell t1 q2
  replace t2 := below_cell t2 q2
  replace u0 := below_cell u0 q2
  replace u1 := below_cell u1 q2
  replace u2 := below_cell u2 q2
  replace pp0 := below_cell pp0 q2
  replace pp1 := below_cell pp1 q2
  replace pp2 := below_cell pp2 q2
  replace qq0 := below_cell qq0 q2
  replace qq1 := below_cell qq1 q2
  replace qq2 := below_cell qq2 q2
  have eF2 := eF1.trans (q2.mono eF1.size)
  clear bE2 bF2 xE2 q1 q2 eF1
  go_wp2_with fail
  go_ret
  exact ⟨rfl, eF2⟩
end Go.Proofs.Yteglnopcbnpbcaa
