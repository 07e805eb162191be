/-
  The statement on RenameStation, walked. No condition.
-/
import Derived.Test.YtmanbpobdaamfaaSRenS
import Derived.Deep.RegionHeld3
namespace Go.Proofs.Ytmanbpobdaamfaa
open Go.RowKit
set_option maxHeartbeats 400000

set_option maxHeartbeats 4000000 in
set_option maxRecDepth 100000 in
theorem FnExactRenameStation_walk (s : SV) (x : Sch) (z : ByteArray) (t : ByteArray) (w : World) (hn : s.n1 ≤ 9223372036854775807 ∧ s.n2 ≤ 9223372036854775807 ∧ s.n3 ≤ 9223372036854775807) (h_z : z.size ≤ 9223372036854775807) (h_t : t.size ≤ 9223372036854775807) (hx : SlX w w.heap.size s x) (hz : Hid (BigX x)) :
    Calls Try.prog 3 #[s.v, .string z, .string t] w fun r w' => r = .returned (.bool true) ∧ Below w.heap.size w w' := by
  obtain ⟨A1, n1, c1, A2, n2, c2, A3, n3, c3⟩ := s
  simp only [SV.v] at hn ⊢
  by_cases hg_z : 1048576 < z.size
  · clear hx hz
    go_enter Try.func3, Try.ntmps3
    go_wp2_with fail
    go_ret
    exact ⟨rfl, (Below.refl _ _).alloc (Nat.le_refl _) _⟩
  by_cases hg_t : 1048576 < t.size
  · clear hx hz
    go_enter Try.func3, Try.ntmps3
    go_wp2_with fail
    go_ret
    exact ⟨rfl, (Below.refl _ _).alloc (Nat.le_refl _) _⟩
  obtain ⟨W0, hW0⟩ : ∃ W0, W0 = w.alloc (.cells #[.slice A1 n1 c1, .slice A2 n2 c2, .slice A3 n3 c3] 25) := ⟨_, rfl⟩
  have e0 : Below w.heap.size w W0 := by rw [hW0]; exact (Below.refl _ _).alloc (Nat.le_refl _) _
  have t0 : W0.cell? ⟨w.heap.size, 0, none⟩ = some (.slice A1 n1 c1) := by rw [hW0]; go_simp
  have t1 : W0.cell? ⟨w.heap.size, 1, none⟩ = some (.slice A2 n2 c2) := by rw [hW0]; go_simp
  have t2 : W0.cell? ⟨w.heap.size, 2, none⟩ = some (.slice A3 n3 c3) := by rw [hW0]; go_simp
  have zz0 : w.heap.size < W0.heap.size := World.block_lt_of_cell? _ _ t0
  have HW0 := hid hW0
  clear hW0
  have hs1 := szScheme_any ⟨A1, n1, c1, A2, n2, c2, A3, n3, c3⟩ x 1048576 W0 w.heap.size e0.size hn.1 hn.2.1 hn.2.2 (by omega) (by omega) (hx.below e0) hz
  simp only [SV.v] at hs1
  by_cases g1 : (1048576 : Int) < ((totX x : Nat) : Int)
  · rw [szF_no g1] at hs1
    clear hx
    go_enter Try.func3, Try.ntmps3
    go_wp2_with fail
    rw [← HW0.out]
    refine hs1.mono ?_
    rintro r w1 ⟨rfl, b1⟩
    go_wp2_with fail
    go_ret
    exact ⟨rfl, e0.trans (b1.mono e0.size)⟩
  obtain ⟨v, hv, v0⟩ : ∃ v, szF 1048576 (totX x) = v ∧ 0 ≤ v := ⟨_, rfl, by rw [szF_yes (by omega)]; omega⟩
  rw [hv] at hs1
  clear hv
  have HT : Hid (totX x ≤ 1048576) := by unfold Hid; omega
  have hnn : n1 ≤ 2000000 ∧ n2 ≤ 2000000 ∧ n3 ≤ 2000000 := by
    have l1 := hx.st.len
    have l2 := hx.rm.len
    have l3 := hx.wy.len
    have := HT.out
    simp only [totX] at *
    omega
  obtain ⟨hn1, hn2, hn3⟩ := hnn
  have hLX : 0 ≤ lenX x ∧ lenX x ≤ 4000000 := by have := HT.out; simp only [lenX, totX] at *; omega
  obtain ⟨hLX0, hLX1⟩ := hLX
  clear g1 hn
  obtain ⟨R, hR⟩ : ∃ R, R = renF x z t := ⟨_, rfl⟩
  have hlen : R.1.st.length ≤ 2000000 ∧ R.1.rm.length ≤ 2000000 ∧ R.1.wy.length ≤ 2000000 ∧ lenX R.1 ≤ 4000000 := by rw [hR]; exact renF_len x z t HT
  obtain ⟨r1, r2⟩ := R
  have HS : ∀ (s : SV) (w : World), (∃ a1 a2 a3, s.A1 = some a1 ∧ s.A2 = some a2 ∧ s.A3 = some a3) → (s.n1 ≤ 2000000 ∧ s.n2 ≤ 2000000 ∧ s.n3 ≤ 2000000) → SlX w w.heap.size s x → Calls Try.prog 6 #[s.v, .string z, .string t] w (fun r w' => ∃ (A1 : Option Addr) (n1 c1 : Nat) (A2 : Option Addr) (n2 c2 : Nat) (A3 : Option Addr) (n3 c3 : Nat), r = .returned (.tuple #[.agg #[.slice A1 n1 c1, .slice A2 n2 c2, .slice A3 n3 c3], .int .i64 r2]) ∧ OwnX w' w.heap.size ⟨A1, n1, c1, A2, n2, c2, A3, n3, c3⟩ r1 ∧ Below w.heap.size w w') := fun s w hA h1 h2 => by have := specRenameStation_any s hA x z t w w.heap.size (Nat.le_refl _) h1 h2 hz h_z h_t; rw [← hR] at this; exact this.mono fun r w' ⟨s0, h1, h2, h3⟩ => ⟨s0.A1, s0.n1, s0.c1, s0.A2, s0.n2, s0.c2, s0.A3, s0.n3, s0.c3, h1, h2, h3⟩
  have HI : ∀ (s : SV) (w : World), (s.n1 ≤ 2000000 ∧ s.n2 ≤ 2000000 ∧ s.n3 ≤ 2000000) → SlX w w.heap.size s x → Calls Try.prog 8 #[s.v, .string z, .string t] w (fun r w' => ∃ (A1 : Option Addr) (n1 c1 : Nat) (A2 : Option Addr) (n2 c2 : Nat) (A3 : Option Addr) (n3 c3 : Nat), r = .returned (.tuple #[.agg #[.slice A1 n1 c1, .slice A2 n2 c2, .slice A3 n3 c3], .int .i64 r2]) ∧ OwnX w' w.heap.size ⟨A1, n1, c1, A2, n2, c2, A3, n3, c3⟩ r1 ∧ Below w.heap.size w w') := fun s w h1 h2 => by have := implRenameStation_any s x z t w w.heap.size (Nat.le_refl _) h1 h2 hz h_z h_t; rw [← hR] at this; exact this.mono fun r w' ⟨s0, h1, h2, h3⟩ => ⟨s0.A1, s0.n1, s0.c1, s0.A2, s0.n2, s0.c2, s0.A3, s0.n3, s0.c3, h1, h2, h3⟩
  clear hR
  replace hlen : r1.st.length ≤ 2000000 ∧ r1.rm.length ≤ 2000000 ∧ r1.wy.length ≤ 2000000 ∧ lenX r1 ≤ 4000000 := hlen
  have HLEN := hid hlen
  have hLR0 : 0 ≤ lenX r1 := by simp only [lenX]; omega
  have hLR1 : lenX r1 ≤ 4000000 := hlen.2.2.2
  clear hlen
  have cA := fun W h1 h2 => toScheme_any ⟨A1, n1, c1, A2, n2, c2, A3, n3, c3⟩ x W w.heap.size h1 hn1 hn2 hn3 h2
  simp only [SV.v] at cA
  have cS := fun a b c W h1 => HS ⟨some ⟨a, 0, none⟩, n1, n1, some ⟨b, 0, none⟩, n2, n2, some ⟨c, 0, none⟩, n3, n3⟩ W ⟨_, _, _, rfl, rfl, rfl⟩ ⟨hn1, hn2, hn3⟩ h1
  simp only [SV.v] at cS
  have cI := fun a b c W h1 => HI ⟨some ⟨a, 0, none⟩, n1, n1, some ⟨b, 0, none⟩, n2, n2, some ⟨c, 0, none⟩, n3, n3⟩ W ⟨hn1, hn2, hn3⟩ h1
  simp only [SV.v] at cI
  have cE := fun a b c a' b' c' W h1 h2 => eqScheme_yes ⟨some ⟨a, 0, none⟩, n1, n1, some ⟨b, 0, none⟩, n2, n2, some ⟨c, 0, none⟩, n3, n3⟩ ⟨some ⟨a', 0, none⟩, n1, n1, some ⟨b', 0, none⟩, n2, n2, some ⟨c', 0, none⟩, n3, n3⟩ x W W.heap.size (Nat.le_refl _) hn1 hn2 hn3 h1 h2
  simp only [SV.v] at cE
  have cM := fun lo hi a b c W ho hi' => markScheme_any lo hi ⟨some ⟨a, 0, none⟩, n1, n1, some ⟨b, 0, none⟩, n2, n2, some ⟨c, 0, none⟩, n3, n3⟩ x 1 W hn1 hn2 hn3 (by omega) (by omega) ho hi'
  simp only [SV.v] at cM
  have cQ := fun (A1 : Option Addr) (n1 c1 : Nat) (A2 : Option Addr) (n2 c2 : Nat) (A3 : Option Addr) (n3 c3 : Nat) (B1 : Option Addr) (m1 d1 : Nat) (B2 : Option Addr) (m2 d2 : Nat) (B3 : Option Addr) (m3 d3 : Nat) W (h : n1 ≤ 2000000 ∧ n2 ≤ 2000000 ∧ n3 ≤ 2000000) h1 h2 => eqScheme_yes ⟨A1, n1, c1, A2, n2, c2, A3, n3, c3⟩ ⟨B1, m1, d1, B2, m2, d2, B3, m3, d3⟩ r1 W W.heap.size (Nat.le_refl _) h.1 h.2.1 h.2.2 h1 h2
  simp only [SV.v] at cQ
  have cR := fun lo hi (A1 : Option Addr) (n1 c1 : Nat) (A2 : Option Addr) (n2 c2 : Nat) (A3 : Option Addr) (n3 c3 : Nat) W (h : n1 ≤ 2000000 ∧ n2 ≤ 2000000 ∧ n3 ≤ 2000000) ho hi' => markScheme_any lo hi ⟨A1, n1, c1, A2, n2, c2, A3, n3, c3⟩ r1 1 W h.1 h.2.1 h.2.2 (by omega) (by omega) ho hi'
  simp only [SV.v] at cR
  have cH := fun (A1 : Option Addr) (n1 c1 : Nat) (A2 : Option Addr) (n2 c2 : Nat) (A3 : Option Addr) (n3 c3 : Nat) W (h : n1 ≤ 2000000 ∧ n2 ≤ 2000000 ∧ n3 ≤ 2000000) (q1 : Hid (r1.st.length = n1)) (q2 : Hid (r1.rm.length = n2)) (q3 : Hid (r1.wy.length = n3)) h1 => heldScheme_any ⟨A1, n1, c1, A2, n2, c2, A3, n3, c3⟩ r1 1 W W.heap.size (Nat.le_refl _) h.1 h.2.1 h.2.2 q1 q2 q3 (by omega) (by omega) h1
  simp only [SV.v] at cH
  clear HS HI
  go_enter Try.func3, Try.ntmps3
  go_wp2_with fail
  rw [← HW0.out]
  refine hs1.mono ?_
  rintro r w1 ⟨rfl, b1⟩
  replace t0 := below_cell t0 b1
  replace t1 := below_cell t1 b1
  replace t2 := below_cell t2 b1
  have z1 := b1.size
  have e1 := e0.trans (b1.mono e0.size)
  clear b1 e0
  go_wp2_with fail
  (with_reducible refine (cA _ e1.size (hx.below e1)).mono ?_)
  rintro r w2 ⟨gaa, gab, gac, rfl, xa, b2⟩
  replace t0 := below_cell t0 b2
  replace t1 := below_cell t1 b2
  replace t2 := below_cell t2 b2
  have z2 := b2.size
  have e2 := e1.trans (b2.mono e1.size)
  clear b2 e1
  go_wp2_with fail
  (with_reducible refine (cS _ _ _ _ xa.sl).mono ?_)
  rintro r w3 ⟨Aw1, nw1, cw1, Aw2, nw2, cw2, Aw3, nw3, cw3, rfl, xrw, b3⟩
  replace xa := xa.below b3
  replace t0 := below_cell t0 b3
  replace t1 := below_cell t1 b3
  replace t2 := below_cell t2 b3
  have z3 := b3.size
  have e3 := e2.trans (b3.mono e2.size)
  clear b3 e2
  have hinw := xrw.inX
  have HMw : Hid (r1.st.length = nw1) ∧ Hid (r1.rm.length = nw2) ∧ Hid (r1.wy.length = nw3) := ⟨(own_len encS_len (by omega) xrw.st).symm, (own_len encS_len (by omega) xrw.rm).symm, (own_len encWay_len (by omega) xrw.wy).symm⟩
  have hNw : nw1 ≤ 2000000 ∧ nw2 ≤ 2000000 ∧ nw3 ≤ 2000000 := by have := HLEN.out; obtain ⟨q1, q2, q3⟩ := HMw; have q1 := q1.out; have q2 := q2.out; have q3 := q3.out; omega
  have HNw := hid hNw
  have HQw := hid HMw
  clear hNw HMw
  clear xa
  obtain ⟨W4, hW4⟩ : ∃ W4, W4 = w3.alloc (.cells #[.slice Aw1 nw1 cw1, .slice Aw2 nw2 cw2, .slice Aw3 nw3 cw3] 29) := ⟨_, rfl⟩
  have a4 : Below w3.heap.size w3 W4 := by rw [hW4]; exact (Below.refl _ _).alloc (Nat.le_refl _) _
  have vw0 : W4.cell? ⟨w3.heap.size, 0, none⟩ = some (.slice Aw1 nw1 cw1) := by rw [hW4]; exact (World.cell?_alloc_at _ _ _ _ rfl).trans rfl
  have vw1 : W4.cell? ⟨w3.heap.size, 1, none⟩ = some (.slice Aw2 nw2 cw2) := by rw [hW4]; exact (World.cell?_alloc_at _ _ _ _ rfl).trans rfl
  have vw2 : W4.cell? ⟨w3.heap.size, 2, none⟩ = some (.slice Aw3 nw3 cw3) := by rw [hW4]; exact (World.cell?_alloc_at _ _ _ _ rfl).trans rfl
  have zz4 : w3.heap.size < W4.heap.size := World.block_lt_of_cell? _ _ vw0
  have HW4 := hid hW4
  clear hW4
  have lt_t0 := World.block_lt_of_cell? _ _ t0
  simp only at lt_t0
  go_wp2_with fail
  rw [← HW4.out]
  clear lt_t0
  replace xrw := xrw.below a4
  replace t0 := below_cell t0 a4
  replace t1 := below_cell t1 a4
  replace t2 := below_cell t2 a4
  have z4 := a4.size
  have e4 := e3.trans (a4.mono e3.size)
  clear a4 e3
  (with_reducible refine (cA _ e4.size (hx.below e4)).mono ?_)
  rintro r w5 ⟨gxa, gxb, gxc, rfl, xx, b5⟩
  replace xrw := xrw.below b5
  replace t0 := below_cell t0 b5
  replace t1 := below_cell t1 b5
  replace t2 := below_cell t2 b5
  replace vw0 := below_cell vw0 b5
  replace vw1 := below_cell vw1 b5
  replace vw2 := below_cell vw2 b5
  have z5 := b5.size
  have e5 := e4.trans (b5.mono e4.size)
  clear b5 e4
  have inx := xx.inX
  obtain ⟨W6, hW6⟩ : ∃ W6, W6 = w5.alloc (.cells #[.slice (some ⟨gxa, 0, none⟩) n1 n1, .slice (some ⟨gxb, 0, none⟩) n2 n2, .slice (some ⟨gxc, 0, none⟩) n3 n3] 29) := ⟨_, rfl⟩
  have a6 : Below w5.heap.size w5 W6 := by rw [hW6]; exact (Below.refl _ _).alloc (Nat.le_refl _) _
  have u0 : W6.cell? ⟨w5.heap.size, 0, none⟩ = some (.slice (some ⟨gxa, 0, none⟩) n1 n1) := by rw [hW6]; exact (World.cell?_alloc_at _ _ _ _ rfl).trans rfl
  have u1 : W6.cell? ⟨w5.heap.size, 1, none⟩ = some (.slice (some ⟨gxb, 0, none⟩) n2 n2) := by rw [hW6]; exact (World.cell?_alloc_at _ _ _ _ rfl).trans rfl
  have u2 : W6.cell? ⟨w5.heap.size, 2, none⟩ = some (.slice (some ⟨gxc, 0, none⟩) n3 n3) := by rw [hW6]; exact (World.cell?_alloc_at _ _ _ _ rfl).trans rfl
  have zz6 : w5.heap.size < W6.heap.size := World.block_lt_of_cell? _ _ u0
  have HW6 := hid hW6
  clear hW6
  have lt_t0 := World.block_lt_of_cell? _ _ t0
  simp only at lt_t0
  have lt_vw0 := World.block_lt_of_cell? _ _ vw0
  simp only at lt_vw0
  go_wp2_with fail
  rw [← HW6.out]
  clear lt_t0 lt_vw0
  replace xrw := xrw.below a6
  replace xx := xx.below a6
  replace t0 := below_cell t0 a6
  replace t1 := below_cell t1 a6
  replace t2 := below_cell t2 a6
  replace vw0 := below_cell vw0 a6
  replace vw1 := below_cell vw1 a6
  replace vw2 := below_cell vw2 a6
  have z6 := a6.size
  have e6 := e5.trans (a6.mono e5.size)
  clear a6 e5
  (with_reducible refine (cI _ _ _ _ xx.sl).mono ?_)
  rintro r w7 ⟨Ag1, ng1, cg1, Ag2, ng2, cg2, Ag3, ng3, cg3, rfl, xrg, b7⟩
  replace xrw := xrw.below b7
  replace xx := xx.below b7
  replace t0 := below_cell t0 b7
  replace t1 := below_cell t1 b7
  replace t2 := below_cell t2 b7
  replace vw0 := below_cell vw0 b7
  replace vw1 := below_cell vw1 b7
  replace vw2 := below_cell vw2 b7
  replace u0 := below_cell u0 b7
  replace u1 := below_cell u1 b7
  replace u2 := below_cell u2 b7
  have z7 := b7.size
  have e7 := e6.trans (b7.mono e6.size)
  clear b7 e6
  have hing := xrg.inX
  have HMg : Hid (r1.st.length = ng1) ∧ Hid (r1.rm.length = ng2) ∧ Hid (r1.wy.length = ng3) := ⟨(own_len encS_len (by omega) xrg.st).symm, (own_len encS_len (by omega) xrg.rm).symm, (own_len encWay_len (by omega) xrg.wy).symm⟩
  have hNg : ng1 ≤ 2000000 ∧ ng2 ≤ 2000000 ∧ ng3 ≤ 2000000 := by have := HLEN.out; obtain ⟨q1, q2, q3⟩ := HMg; have q1 := q1.out; have q2 := q2.out; have q3 := q3.out; omega
  have HNg := hid hNg
  have HQg := hid HMg
  clear hNg HMg
  obtain ⟨W8, hW8⟩ : ∃ W8, W8 = w7.alloc (.cells #[.slice Ag1 ng1 cg1, .slice Ag2 ng2 cg2, .slice Ag3 ng3 cg3] 29) := ⟨_, rfl⟩
  have a8 : Below w7.heap.size w7 W8 := by rw [hW8]; exact (Below.refl _ _).alloc (Nat.le_refl _) _
  have vg0 : W8.cell? ⟨w7.heap.size, 0, none⟩ = some (.slice Ag1 ng1 cg1) := by rw [hW8]; exact (World.cell?_alloc_at _ _ _ _ rfl).trans rfl
  have vg1 : W8.cell? ⟨w7.heap.size, 1, none⟩ = some (.slice Ag2 ng2 cg2) := by rw [hW8]; exact (World.cell?_alloc_at _ _ _ _ rfl).trans rfl
  have vg2 : W8.cell? ⟨w7.heap.size, 2, none⟩ = some (.slice Ag3 ng3 cg3) := by rw [hW8]; exact (World.cell?_alloc_at _ _ _ _ rfl).trans rfl
  have zz8 : w7.heap.size < W8.heap.size := World.block_lt_of_cell? _ _ vg0
  have HW8 := hid hW8
  clear hW8
  have lt_t0 := World.block_lt_of_cell? _ _ t0
  simp only at lt_t0
  have lt_vw0 := World.block_lt_of_cell? _ _ vw0
  simp only at lt_vw0
  have lt_u0 := World.block_lt_of_cell? _ _ u0
  simp only at lt_u0
  go_wp2_with fail
  rw [← HW8.out]
  clear lt_t0 lt_vw0 lt_u0
  replace xrw := xrw.below a8
  replace xx := xx.below a8
  replace xrg := xrg.below a8
  replace t0 := below_cell t0 a8
  replace t1 := below_cell t1 a8
  replace t2 := below_cell t2 a8
  replace vw0 := below_cell vw0 a8
  replace vw1 := below_cell vw1 a8
  replace vw2 := below_cell vw2 a8
  replace u0 := below_cell u0 a8
  replace u1 := below_cell u1 a8
  replace u2 := below_cell u2 a8
  have z8 := a8.size
  have e8 := e7.trans (a8.mono e7.size)
  clear a8 e7
  (with_reducible refine (cQ _ _ _ _ _ _ _ _ _ _ _ _ _ _ _ _ _ _ _ HNg.out xrg.sl xrw.sl).mono ?_)
  rintro r w9 ⟨rfl, b9⟩
  replace xrw := xrw.below b9
  replace xx := xx.below b9
  replace xrg := xrg.below b9
  replace t0 := below_cell t0 b9
  replace t1 := below_cell t1 b9
  replace t2 := below_cell t2 b9
  replace vw0 := below_cell vw0 b9
  replace vw1 := below_cell vw1 b9
  replace vw2 := below_cell vw2 b9
  replace u0 := below_cell u0 b9
  replace u1 := below_cell u1 b9
  replace u2 := below_cell u2 b9
  replace vg0 := below_cell vg0 b9
  replace vg1 := below_cell vg1 b9
  replace vg2 := below_cell vg2 b9
  have z9 := b9.size
  have e9 := e8.trans (b9.mono e8.size)
  clear b9 e8
  go_wp2_with fail
  go_region_held3 (fun W => W.cell? ⟨w.heap.size, 0, none⟩ = some (.slice A1 n1 c1) ∧ W.cell? ⟨w.heap.size, 1, none⟩ = some (.slice A2 n2 c2) ∧ W.cell? ⟨w.heap.size, 2, none⟩ = some (.slice A3 n3 c3) ∧ W.cell? ⟨w5.heap.size, 0, none⟩ = some (.slice (some ⟨gxa, 0, none⟩) n1 n1) ∧ W.cell? ⟨w5.heap.size, 1, none⟩ = some (.slice (some ⟨gxb, 0, none⟩) n2 n2) ∧ W.cell? ⟨w5.heap.size, 2, none⟩ = some (.slice (some ⟨gxc, 0, none⟩) n3 n3))
    (first
      | go_keep
      | (go_split_ands; refine ⟨below_cell (by assumption) bF, below_cell (by assumption) bF, below_cell (by assumption) bF, below_cell (by assumption) bF, below_cell (by assumption) bF, below_cell (by assumption) bF⟩)
      | (go_split_ands; refine ⟨below_cell (by assumption) bE, below_cell (by assumption) bE, below_cell (by assumption) bE, below_cell (by assumption) bE, below_cell (by assumption) bE, below_cell (by assumption) bE⟩))
    (first
      | (go_at_call 7; (with_reducible refine (cA _ e9.drew.size (hx.below e9.drew)).mono ?_); rintro r wE ⟨gya, gyb, gyc, rfl, xy, bE⟩)
      | (go_at_call 9; (with_reducible refine (cE _ _ _ _ _ _ _ ((xx.below (w' := w9.drew) ((Below.refl _ _).drew)).below bE).sl xy.sl).mono ?_); rintro r wF ⟨rfl, bF⟩))
  have q1 : Below w9.heap.size w9 wE := (Below.refl _ _).drew.trans (bE.mono (by simp))
  have q2 := q1.trans (bF.mono q1.size)
  replace xrw := xrw.below q2
  replace xx := xx.below q2
  replace xrg := xrg.below q2
  replace t0 := below_cell t0 q2
  replace t1 := below_cell t1 q2
  replace t2 := below_cell t2 q2
  replace vw0 := below_cell vw0 q2
  replace vw1 := below_cell vw1 q2
  replace vw2 := below_cell vw2 q2
  replace u0 := below_cell u0 q2
  replace u1 := below_cell u1 q2
  replace u2 := below_cell u2 q2
  replace vg0 := below_cell vg0 q2
  replace vg1 := below_cell vg1 q2
  replace vg2 := below_cell vg2 q2
  have zF := q2.size
  have eF := e9.trans (q2.mono e9.size)
  clear bE bF xy q1 q2 e9
  go_wp2_with fail
  (with_reducible refine (cM W4.heap.size w5.heap.size _ _ _ _ xx inx).mono ?_)
  rintro r w10 ⟨rfl, _, y10⟩
  have z10 := y10.size
  replace xrw : OwnX w10 _ ⟨Aw1, nw1, cw1, Aw2, nw2, cw2, Aw3, nw3, cw3⟩ r1 := ⟨y10.own xrw.st (fun b hb hh => by have := hinw b (.inl hb); omega), y10.own xrw.rm (fun b hb hh => by have := hinw b (.inr (.inl hb)); omega), y10.own xrw.wy (fun b hb hh => by have := hinw b (.inr (.inr hb)); omega), xrw.ap12, xrw.ap13, xrw.ap23⟩
  replace xrg : OwnX w10 _ ⟨Ag1, ng1, cg1, Ag2, ng2, cg2, Ag3, ng3, cg3⟩ r1 := ⟨y10.own xrg.st (fun b hb hh => by have := hing b (.inl hb); omega), y10.own xrg.rm (fun b hb hh => by have := hing b (.inr (.inl hb)); omega), y10.own xrg.wy (fun b hb hh => by have := hing b (.inr (.inr hb)); omega), xrg.ap12, xrg.ap13, xrg.ap23⟩
  replace t0 := y10.cell (by simp only; omega) t0
  replace t1 := y10.cell (by simp only; omega) t1
  replace t2 := y10.cell (by simp only; omega) t2
  replace vw0 := y10.cell (by simp only; omega) vw0
  replace vw1 := y10.cell (by simp only; omega) vw1
  replace vw2 := y10.cell (by simp only; omega) vw2
  replace u0 := y10.cell (by simp only; omega) u0
  replace u1 := y10.cell (by simp only; omega) u1
  replace u2 := y10.cell (by simp only; omega) u2
  replace vg0 := y10.cell (by simp only; omega) vg0
  replace vg1 := y10.cell (by simp only; omega) vg1
  replace vg2 := y10.cell (by simp only; omega) vg2
  have e10 := y10.toBelow eF (by omega) eF.size
  clear xx inx y10
  go_wp2_with fail
  (with_reducible refine (cQ _ _ _ _ _ _ _ _ _ _ _ _ _ _ _ _ _ _ _ HNg.out xrg.sl xrw.sl).mono ?_)
  rintro r w11 ⟨rfl, b11⟩
  replace xrw := xrw.below b11
  replace xrg := xrg.below b11
  replace t0 := below_cell t0 b11
  replace t1 := below_cell t1 b11
  replace t2 := below_cell t2 b11
  replace vw0 := below_cell vw0 b11
  replace vw1 := below_cell vw1 b11
  replace vw2 := below_cell vw2 b11
  replace u0 := below_cell u0 b11
  replace u1 := below_cell u1 b11
  replace u2 := below_cell u2 b11
  replace vg0 := below_cell vg0 b11
  replace vg1 := below_cell vg1 b11
  replace vg2 := below_cell vg2 b11
  have z11 := b11.size
  have e11 := e10.trans (b11.mono e10.size)
  clear b11 e10
  go_wp2_with fail
  (with_reducible refine (cR W6.heap.size w7.heap.size _ _ _ _ _ _ _ _ _ _ HNg.out xrg hing).mono ?_)
  rintro r w12 ⟨rfl, q12, y12⟩
  have z12 := y12.size
  have e12 := y12.toBelow e11 (by omega) e11.size
  clear e11
  replace xrw : OwnX w12 _ ⟨Aw1, nw1, cw1, Aw2, nw2, cw2, Aw3, nw3, cw3⟩ r1 := ⟨y12.own xrw.st (fun b hb hh => by have := hinw b (.inl hb); omega), y12.own xrw.rm (fun b hb hh => by have := hinw b (.inr (.inl hb)); omega), y12.own xrw.wy (fun b hb hh => by have := hinw b (.inr (.inr hb)); omega), xrw.ap12, xrw.ap13, xrw.ap23⟩
  replace t0 := y12.cell (by simp only; omega) t0
  replace t1 := y12.cell (by simp only; omega) t1
  replace t2 := y12.cell (by simp only; omega) t2
  replace vw0 := y12.cell (by simp only; omega) vw0
  replace vw1 := y12.cell (by simp only; omega) vw1
  replace vw2 := y12.cell (by simp only; omega) vw2
  replace u0 := y12.cell (by simp only; omega) u0
  replace u1 := y12.cell (by simp only; omega) u1
  replace u2 := y12.cell (by simp only; omega) u2
  replace vg0 := y12.cell (by simp only; omega) vg0
  replace vg1 := y12.cell (by simp only; omega) vg1
  replace vg2 := y12.cell (by simp only; omega) vg2
  replace xrg := q12
  clear y12
  go_wp2_with fail
  (with_reducible refine (cH _ _ _ _ _ _ _ _ _ _ HNg.out HQg.out.1 HQg.out.2.1 HQg.out.2.2 xrg.sl).mono ?_)
  rintro r w13 ⟨rfl, b13⟩
  replace xrw := xrw.below b13
  replace xrg := xrg.below b13
  replace t0 := below_cell t0 b13
  replace t1 := below_cell t1 b13
  replace t2 := below_cell t2 b13
  replace vw0 := below_cell vw0 b13
  replace vw1 := below_cell vw1 b13
  replace vw2 := below_cell vw2 b13
  replace u0 := below_cell u0 b13
  replace u1 := below_cell u1 b13
  replace u2 := below_cell u2 b13
  replace vg0 := below_cell vg0 b13
  replace vg1 := below_cell vg1 b13
  replace vg2 := below_cell vg2 b13
  have z13 := b13.size
  have e13 := e12.trans (b13.mono e12.size)
  clear b13 e12
  go_wp2_with fail
  (with_reducible refine (cA _ e13.size (hx.below e13)).mono ?_)
  rintro r w14 ⟨gha, ghb, ghc, rfl, xh, b14⟩
  replace xrw := xrw.below b14
  replace xrg := xrg.below b14
  replace t0 := below_cell t0 b14
  replace t1 := below_cell t1 b14
  replace t2 := below_cell t2 b14
  replace vw0 := below_cell vw0 b14
  replace vw1 := below_cell vw1 b14
  replace vw2 := below_cell vw2 b14
  replace u0 := below_cell u0 b14
  replace u1 := below_cell u1 b14
  replace u2 := below_cell u2 b14
  replace vg0 := below_cell vg0 b14
  replace vg1 := below_cell vg1 b14
  replace vg2 := below_cell vg2 b14
  have z14 := b14.size
  have e14 := e13.trans (b14.mono e13.size)
  clear b14 e13
  go_wp2_with fail
  (with_reducible refine (cI _ _ _ _ xh.sl).mono ?_)
  rintro r w15 ⟨Ah1, nh1, ch1, Ah2, nh2, ch2, Ah3, nh3, ch3, rfl, xrh, b15⟩
  replace xrw := xrw.below b15
  replace xrg := xrg.below b15
  replace xh := xh.below b15
  replace t0 := below_cell t0 b15
  replace t1 := below_cell t1 b15
  replace t2 := below_cell t2 b15
  replace vw0 := below_cell vw0 b15
  replace vw1 := below_cell vw1 b15
  replace vw2 := below_cell vw2 b15
  replace u0 := below_cell u0 b15
  replace u1 := below_cell u1 b15
  replace u2 := below_cell u2 b15
  replace vg0 := below_cell vg0 b15
  replace vg1 := below_cell vg1 b15
  replace vg2 := below_cell vg2 b15
  have z15 := b15.size
  have e15 := e14.trans (b15.mono e14.size)
  clear b15 e14
  have hinh := xrh.inX
  have HMh : Hid (r1.st.length = nh1) ∧ Hid (r1.rm.length = nh2) ∧ Hid (r1.wy.length = nh3) := ⟨(own_len encS_len (by omega) xrh.st).symm, (own_len encS_len (by omega) xrh.rm).symm, (own_len encWay_len (by omega) xrh.wy).symm⟩
  have hNh : nh1 ≤ 2000000 ∧ nh2 ≤ 2000000 ∧ nh3 ≤ 2000000 := by have := HLEN.out; obtain ⟨q1, q2, q3⟩ := HMh; have q1 := q1.out; have q2 := q2.out; have q3 := q3.out; omega
  have HNh := hid hNh
  have HQh := hid HMh
  clear hNh HMh
  clear xh
  obtain ⟨W16, hW16⟩ : ∃ W16, W16 = w15.alloc (.cells #[.slice Ah1 nh1 ch1, .slice Ah2 nh2 ch2, .slice Ah3 nh3 ch3] 29) := ⟨_, rfl⟩
  have a16 : Below w15.heap.size w15 W16 := by rw [hW16]; exact (Below.refl _ _).alloc (Nat.le_refl _) _
  have vh0 : W16.cell? ⟨w15.heap.size, 0, none⟩ = some (.slice Ah1 nh1 ch1) := by rw [hW16]; exact (World.cell?_alloc_at _ _ _ _ rfl).trans rfl
  have vh1 : W16.cell? ⟨w15.heap.size, 1, none⟩ = some (.slice Ah2 nh2 ch2) := by rw [hW16]; exact (World.cell?_alloc_at _ _ _ _ rfl).trans rfl
  have vh2 : W16.cell? ⟨w15.heap.size, 2, none⟩ = some (.slice Ah3 nh3 ch3) := by rw [hW16]; exact (World.cell?_alloc_at _ _ _ _ rfl).trans rfl
  have zz16 : w15.heap.size < W16.heap.size := World.block_lt_of_cell? _ _ vh0
  have HW16 := hid hW16
  clear hW16
  have lt_t0 := World.block_lt_of_cell? _ _ t0
  simp only at lt_t0
  have lt_vw0 := World.block_lt_of_cell? _ _ vw0
  simp only at lt_vw0
  have lt_u0 := World.block_lt_of_cell? _ _ u0
  simp only at lt_u0
  have lt_vg0 := World.block_lt_of_cell? _ _ vg0
  simp only at lt_vg0
  go_wp2_with fail
  rw [← HW16.out]
  clear lt_t0 lt_vw0 lt_u0 lt_vg0
  replace xrw := xrw.below a16
  replace xrg := xrg.below a16
  replace xrh := xrh.below a16
  replace t0 := below_cell t0 a16
  replace t1 := below_cell t1 a16
  replace t2 := below_cell t2 a16
  replace vw0 := below_cell vw0 a16
  replace vw1 := below_cell vw1 a16
  replace vw2 := below_cell vw2 a16
  replace u0 := below_cell u0 a16
  replace u1 := below_cell u1 a16
  replace u2 := below_cell u2 a16
  replace vg0 := below_cell vg0 a16
  replace vg1 := below_cell vg1 a16
  replace vg2 := below_cell vg2 a16
  have z16 := a16.size
  have e16 := e15.trans (a16.mono e15.size)
  clear a16 e15
  (with_reducible refine (cQ _ _ _ _ _ _ _ _ _ _ _ _ _ _ _ _ _ _ _ HNh.out xrh.sl xrw.sl).mono ?_)
  rintro r w17 ⟨rfl, b17⟩
  replace xrw := xrw.below b17
  replace xrg := xrg.below b17
  replace xrh := xrh.below b17
  replace t0 := below_cell t0 b17
  replace t1 := below_cell t1 b17
  replace t2 := below_cell t2 b17
  replace vw0 := below_cell vw0 b17
  replace vw1 := below_cell vw1 b17
  replace vw2 := below_cell vw2 b17
  replace u0 := below_cell u0 b17
  replace u1 := below_cell u1 b17
  replace u2 := below_cell u2 b17
  replace vg0 := below_cell vg0 b17
  replace vg1 := below_cell vg1 b17
  replace vg2 := below_cell vg2 b17
  replace vh0 := below_cell vh0 b17
  replace vh1 := below_cell vh1 b17
  replace vh2 := below_cell vh2 b17
  have z17 := b17.size
  have e17 := e16.trans (b17.mono e16.size)
  clear b17 e16
  clear xrh
  go_wp2_with fail
  (with_reducible refine (cH _ _ _ _ _ _ _ _ _ _ HNg.out HQg.out.1 HQg.out.2.1 HQg.out.2.2 xrg.sl).mono ?_)
  rintro r w18 ⟨rfl, b18⟩
  replace xrw := xrw.below b18
  replace xrg := xrg.below b18
  replace t0 := below_cell t0 b18
  replace t1 := below_cell t1 b18
  replace t2 := below_cell t2 b18
  replace vw0 := below_cell vw0 b18
  replace vw1 := below_cell vw1 b18
  replace vw2 := below_cell vw2 b18
  replace u0 := below_cell u0 b18
  replace u1 := below_cell u1 b18
  replace u2 := below_cell u2 b18
  replace vg0 := below_cell vg0 b18
  replace vg1 := below_cell vg1 b18
  replace vg2 := below_cell vg2 b18
  replace vh0 := below_cell vh0 b18
  replace vh1 := below_cell vh1 b18
  replace vh2 := below_cell vh2 b18
  have z18 := b18.size
  have e18 := e17.trans (b18.mono e17.size)
  clear b18 e17
  go_wp2_with fail
  go_ret
  exact ⟨rfl, e18⟩
end Go.Proofs.Ytmanbpobdaamfaa
