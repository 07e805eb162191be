/-
  The statement on LonelyStations, walked. No condition.
-/
import Derived.Test.YthlnkniofpapmaaSByS
import Derived.Deep.RegionHeld3
namespace Go.Proofs.Ythlnkniofpapmaa
open Go.RowKit
set_option maxHeartbeats 400000

set_option maxHeartbeats 4000000 in
set_option maxRecDepth 100000 in
theorem FnExactLonelyStations_walk (s : SV) (x : Sch) (w : World) (hn : s.n1 ≤ 9223372036854775807 ∧ s.n2 ≤ 9223372036854775807 ∧ s.n3 ≤ 9223372036854775807) (hx : SlX w w.heap.size s x) (hz : Hid (BigX x)) :
    Calls Try.prog 7 #[s.v] w fun r w' => r = .returned (.bool true) ∧ Below w.heap.size w w' := by
  obtain ⟨A1, n1, c1, A2, n2, c2, A3, n3, c3⟩ := s
  simp only [SV.v] at hn ⊢
  obtain ⟨W0, hW0⟩ : ∃ W0, W0 = w.alloc (.cells #[.slice A1 n1 c1, .slice A2 n2 c2, .slice A3 n3 c3] 25) := ⟨_, rfl⟩
  have e0 : Below w.heap.size w W0 := by rw [hW0]; exact (Below.refl _ _).alloc (Nat.le_refl _) _
  have t0 : W0.cell? ⟨w.heap.size, 0, none⟩ = some (.slice A1 n1 c1) := by rw [hW0]; go_simp
  have t1 : W0.cell? ⟨w.heap.size, 1, none⟩ = some (.slice A2 n2 c2) := by rw [hW0]; go_simp
  have t2 : W0.cell? ⟨w.heap.size, 2, none⟩ = some (.slice A3 n3 c3) := by rw [hW0]; go_simp
  have zz0 : w.heap.size < W0.heap.size := World.block_lt_of_cell? _ _ t0
  have HW0 := hid hW0
  clear hW0
  have hs1 := szScheme_any ⟨A1, n1, c1, A2, n2, c2, A3, n3, c3⟩ x 1048576 W0 w.heap.size e0.size hn.1 hn.2.1 hn.2.2 (by omega) (by omega) (hx.below e0) hz
  simp only [SV.v] at hs1
  by_cases g1 : (1048576 : Int) < ((totX x : Nat) : Int)
  · rw [szF_no g1] at hs1
    clear hx
    go_enter Try.func7, Try.ntmps7
    go_wp2_with fail
    rw [← HW0.out]
    refine hs1.mono ?_
    rintro r w1 ⟨rfl, b1⟩
    go_wp2_with fail
    go_ret
    exact ⟨rfl, e0.trans (b1.mono e0.size)⟩
  obtain ⟨v, hv, v0⟩ : ∃ v, szF 1048576 (totX x) = v ∧ 0 ≤ v := ⟨_, rfl, by rw [szF_yes (by omega)]; omega⟩
  rw [hv] at hs1
  clear hv
  have HT : Hid (totX x ≤ 1048576) := by unfold Hid; omega
  have hnn : n1 ≤ 2000000 ∧ n2 ≤ 2000000 ∧ n3 ≤ 2000000 := by
    have l1 := hx.st.len
    have l2 := hx.rm.len
    have l3 := hx.wy.len
    have := HT.out
    simp only [totX] at *
    omega
  obtain ⟨hn1, hn2, hn3⟩ := hnn
  have hLX : 0 ≤ lenX x ∧ lenX x ≤ 4000000 := by have := HT.out; simp only [lenX, totX] at *; omega
  obtain ⟨hLX0, hLX1⟩ := hLX
  clear g1 hn
  obtain ⟨R, hR⟩ : ∃ R, R = lonelyF x := ⟨_, rfl⟩
  have hlen : R.1.length ≤ 2000000 := by rw [hR]; exact lonelyF_len x HT
  obtain ⟨r1, r2⟩ := R
  have HS : ∀ (s : SV) (w : World), (s.n1 ≤ 2000000 ∧ s.n2 ≤ 2000000 ∧ s.n3 ≤ 2000000) → SlX w w.heap.size s x → Calls Try.prog 30 #[s.v] w (fun r w' => ∃ A0 n0 c0, r = .returned (.tuple #[.slice A0 n0 c0, .int .i64 r2]) ∧ w'.ownsRow w.heap.size 9 1 (.slice A0 n0 c0) n0 (r1.flatMap encS) ∧ Below w.heap.size w w') := fun s w h1 h2 => by have := specLonelyStations_any s x w w.heap.size (Nat.le_refl _) h1 h2 hz; rw [← hR] at this; exact this
  have HI : ∀ (s : SV) (w : World), (s.n1 ≤ 2000000 ∧ s.n2 ≤ 2000000 ∧ s.n3 ≤ 2000000) → SlX w w.heap.size s x → Calls Try.prog 31 #[s.v] w (fun r w' => ∃ A0 n0 c0, r = .returned (.tuple #[.slice A0 n0 c0, .int .i64 r2]) ∧ w'.ownsRow w.heap.size 9 1 (.slice A0 n0 c0) n0 (r1.flatMap encS) ∧ Below w.heap.size w w') := fun s w h1 h2 => by have := implLonelyStations_any s x w w.heap.size (Nat.le_refl _) h1 h2 hz; rw [← hR] at this; exact this
  clear hR
  replace hlen : r1.length ≤ 2000000 := hlen
  have cA := fun W h1 h2 => toScheme_any ⟨A1, n1, c1, A2, n2, c2, A3, n3, c3⟩ x W w.heap.size h1 hn1 hn2 hn3 h2
  simp only [SV.v] at cA
  have cS := fun a b c W h1 => HS ⟨some ⟨a, 0, none⟩, n1, n1, some ⟨b, 0, none⟩, n2, n2, some ⟨c, 0, none⟩, n3, n3⟩ W ⟨hn1, hn2, hn3⟩ h1
  simp only [SV.v] at cS
  have cI := fun a b c W h1 => HI ⟨some ⟨a, 0, none⟩, n1, n1, some ⟨b, 0, none⟩, n2, n2, some ⟨c, 0, none⟩, n3, n3⟩ W ⟨hn1, hn2, hn3⟩ h1
  simp only [SV.v] at cI
  have cE := fun a b c a' b' c' W h1 h2 => eqScheme_yes ⟨some ⟨a, 0, none⟩, n1, n1, some ⟨b, 0, none⟩, n2, n2, some ⟨c, 0, none⟩, n3, n3⟩ ⟨some ⟨a', 0, none⟩, n1, n1, some ⟨b', 0, none⟩, n2, n2, some ⟨c', 0, none⟩, n3, n3⟩ x W W.heap.size (Nat.le_refl _) hn1 hn2 hn3 h1 h2
  simp only [SV.v] at cE
  have cM := fun lo hi a b c W ho hi' => markScheme_any lo hi ⟨some ⟨a, 0, none⟩, n1, n1, some ⟨b, 0, none⟩, n2, n2, some ⟨c, 0, none⟩, n3, n3⟩ x 1 W hn1 hn2 hn3 (by omega) (by omega) ho hi'
  simp only [SV.v] at cM
  clear HS HI
  go_enter Try.func7, Try.ntmps7
  go_wp2_with fail
  rw [← HW0.out]
  refine hs1.mono ?_
  rintro r w1 ⟨rfl, b1⟩
  replace t0 := below_cell t0 b1
  replace t1 := below_cell t1 b1
  replace t2 := below_cell t2 b1
  have z1 := b1.size
  have e1 := e0.trans (b1.mono e0.size)
  clear b1 e0
  go_wp2_with fail
  (with_reducible refine (cA _ e1.size (hx.below e1)).mono ?_)
  rintro r w2 ⟨gaa, gab, gac, rfl, xa, b2⟩
  replace t0 := below_cell t0 b2
  replace t1 := below_cell t1 b2
  replace t2 := below_cell t2 b2
  have z2 := b2.size
  have e2 := e1.trans (b2.mono e1.size)
  clear b2 e1
  go_wp2_with fail
  (with_reducible refine (cS _ _ _ _ xa.sl).mono ?_)
  rintro r w3 ⟨Aw, nw, cw, rfl, pw, b3⟩
  replace xa := xa.below b3
  replace t0 := below_cell t0 b3
  replace t1 := below_cell t1 b3
  replace t2 := below_cell t2 b3
  have z3 := b3.size
  have e3 := e2.trans (b3.mono e2.size)
  clear b3 e2
  have hlw := pw.lt
  have HMw := hid (own_len encS_len (by omega) pw)
  clear xa
  have lo0 : w3.heap.size = w3.heap.size := rfl
  go_wp2_with fail
  (with_reducible refine (cA _ e3.size (hx.below e3)).mono ?_)
  rintro r w4 ⟨gxa, gxb, gxc, rfl, xx, b4⟩
  replace pw := own_below pw b4
  replace t0 := below_cell t0 b4
  replace t1 := below_cell t1 b4
  replace t2 := below_cell t2 b4
  have z4 := b4.size
  have e4 := e3.trans (b4.mono e3.size)
  clear b4 e3
  have inx := xx.inX
  obtain ⟨W5, hW5⟩ : ∃ W5, W5 = w4.alloc (.cells #[.slice (some ⟨gxa, 0, none⟩) n1 n1, .slice (some ⟨gxb, 0, none⟩) n2 n2, .slice (some ⟨gxc, 0, none⟩) n3 n3] 30) := ⟨_, rfl⟩
  have a5 : Below w4.heap.size w4 W5 := by rw [hW5]; exact (Below.refl _ _).alloc (Nat.le_refl _) _
  have u0 : W5.cell? ⟨w4.heap.size, 0, none⟩ = some (.slice (some ⟨gxa, 0, none⟩) n1 n1) := by rw [hW5]; exact (World.cell?_alloc_at _ _ _ _ rfl).trans rfl
  have u1 : W5.cell? ⟨w4.heap.size, 1, none⟩ = some (.slice (some ⟨gxb, 0, none⟩) n2 n2) := by rw [hW5]; exact (World.cell?_alloc_at _ _ _ _ rfl).trans rfl
  have u2 : W5.cell? ⟨w4.heap.size, 2, none⟩ = some (.slice (some ⟨gxc, 0, none⟩) n3 n3) := by rw [hW5]; exact (World.cell?_alloc_at _ _ _ _ rfl).trans rfl
  have zz5 : w4.heap.size < W5.heap.size := World.block_lt_of_cell? _ _ u0
  have HW5 := hid hW5
  clear hW5
  have lt_t0 := World.block_lt_of_cell? _ _ t0
  simp only at lt_t0
  go_wp2_with fail
  rw [← HW5.out]
  clear lt_t0
  replace pw := own_below pw a5
  replace xx := xx.below a5
  replace t0 := below_cell t0 a5
  replace t1 := below_cell t1 a5
  replace t2 := below_cell t2 a5
  have z5 := a5.size
  have e5 := e4.trans (a5.mono e4.size)
  clear a5 e4
  (with_reducible refine (cI _ _ _ _ xx.sl).mono ?_)
  rintro r w6 ⟨Ag, ng, cg, rfl, pg, b6⟩
  replace pw := own_below pw b6
  replace xx := xx.below b6
  replace t0 := below_cell t0 b6
  replace t1 := below_cell t1 b6
  replace t2 := below_cell t2 b6
  replace u0 := below_cell u0 b6
  replace u1 := below_cell u1 b6
  replace u2 := below_cell u2 b6
  have z6 := b6.size
  have e6 := e5.trans (b6.mono e5.size)
  clear b6 e5
  have hlg := pg.lt
  have HMg := hid (own_len encS_len (by omega) pg)
  have Hw := hid HMw.out
  have Hg := hid HMg.out
  have kw : ∀ b, (Value.slice Aw nw cw).ownBlock = some b → b < w3.heap.size := fun b hb => (hlw b hb).2
  have kg : ∀ b, (Value.slice Ag ng cg).ownBlock = some b → W5.heap.size ≤ b := fun b hb => (hlg b hb).1
  clear hlw hlg
  go_wp2_with fail
  (with_reducible refine (eqStringS_yes _ _ _ _ _ _ _ _ (Nat.le_refl _) _ (by rw [Hg.out]; exact hlen) (own_sl encS_len (by omega) pg) (own_sl encS_len (by omega) pw)).mono ?_)
  rintro r w7 ⟨rfl, b7⟩
  replace pw := own_below pw b7
  replace xx := xx.below b7
  replace pg := own_below pg b7
  replace t0 := below_cell t0 b7
  replace t1 := below_cell t1 b7
  replace t2 := below_cell t2 b7
  replace u0 := below_cell u0 b7
  replace u1 := below_cell u1 b7
  replace u2 := below_cell u2 b7
  have z7 := b7.size
  have e7 := e6.trans (b7.mono e6.size)
  clear b7 e6
  go_wp2_with fail
  go_region_held3 (fun W => W.cell? ⟨w.heap.size, 0, none⟩ = some (.slice A1 n1 c1) ∧ W.cell? ⟨w.heap.size, 1, none⟩ = some (.slice A2 n2 c2) ∧ W.cell? ⟨w.heap.size, 2, none⟩ = some (.slice A3 n3 c3) ∧ W.cell? ⟨w4.heap.size, 0, none⟩ = some (.slice (some ⟨gxa, 0, none⟩) n1 n1) ∧ W.cell? ⟨w4.heap.size, 1, none⟩ = some (.slice (some ⟨gxb, 0, none⟩) n2 n2) ∧ W.cell? ⟨w4.heap.size, 2, none⟩ = some (.slice (some ⟨gxc, 0, none⟩) n3 n3))
    (first
      | go_keep
      | (go_split_ands; refine ⟨below_cell (by assumption) bF, below_cell (by assumption) bF, below_cell (by assumption) bF, below_cell (by assumption) bF, below_cell (by assumption) bF, below_cell (by assumption) bF⟩)
      | (go_split_ands; refine ⟨below_cell (by assumption) bE, below_cell (by assumption) bE, below_cell (by assumption) bE, below_cell (by assumption) bE, below_cell (by assumption) bE, below_cell (by assumption) bE⟩))
    (first
      | (go_at_call 14; (with_reducible refine (cA _ e7.drew.size (hx.below e7.drew)).mono ?_); rintro r wE ⟨gya, gyb, gyc, rfl, xy, bE⟩)
      | (go_at_call 16; (with_reducible refine (cE _ _ _ _ _ _ _ ((xx.below (w' := w7.drew) ((Below.refl _ _).drew)).below bE).sl xy.sl).mono ?_); rintro r wF ⟨rfl, bF⟩))
  have q1 : Below w7.heap.size w7 wE := (Below.refl _ _).drew.trans (bE.mono (by simp))
  have q2 := q1.trans (bF.mono q1.size)
  replace pw := own_below pw q2
  replace xx := xx.below q2
  replace pg := own_below pg q2
  replace t0 := below_cell t0 q2
  replace t1 := below_cell t1 q2
  replace t2 := below_cell t2 q2
  replace u0 := below_cell u0 q2
  replace u1 := below_cell u1 q2
  replace u2 := below_cell u2 q2
  have zF := q2.size
  have eF := e7.trans (q2.mono e7.size)
  clear bE bF xy q1 q2 e7
  go_wp2_with fail
  (with_reducible refine (cM w3.heap.size w4.heap.size _ _ _ _ xx inx).mono ?_)
  rintro r w8 ⟨rfl, _, y8⟩
  have z8 := y8.size
  replace pw := y8.own pw (fun b hb hh => by have := kw b hb; omega)
  replace pg := y8.own pg (fun b hb hh => by have := kg b hb; omega)
  replace t0 := y8.cell (by simp only; omega) t0
  replace t1 := y8.cell (by simp only; omega) t1
  replace t2 := y8.cell (by simp only; omega) t2
  replace u0 := y8.cell (by simp only; omega) u0
  replace u1 := y8.cell (by simp only; omega) u1
  replace u2 := y8.cell (by simp only; omega) u2
  have e8 := y8.toBelow eF (by omega) eF.size
  clear xx inx y8
  go_wp2_with fail
  (with_reducible refine (eqStringS_yes _ _ _ _ _ _ _ _ (Nat.le_refl _) _ (by rw [Hg.out]; exact hlen) (own_sl encS_len (by omega) pg) (own_sl encS_len (by omega) pw)).mono ?_)
  rintro r w9 ⟨rfl, b9⟩
  replace pw := own_below pw b9
  replace pg := own_below pg b9
  replace t0 := below_cell t0 b9
  replace t1 := below_cell t1 b9
  replace t2 := below_cell t2 b9
  replace u0 := below_cell u0 b9
  replace u1 := below_cell u1 b9
  replace u2 := below_cell u2 b9
  have z9 := b9.size
  have e9 := e8.trans (b9.mono e8.size)
  clear b9 e8
  go_wp2_with fail
  (with_reducible refine (markStringS_any _ _ _ _ _ 1 _ (by rw [Hg.out]; exact hlen) (by omega) (by omega) pg).mono ?_)
  rintro r w10 ⟨rfl, q10, y10⟩
  have z10 := y10.size
  have e10 := grown_below e9 y10 e9.size (fun b hb => by have := kg b hb; omega)
  clear e9
  replace pw := own_keep pw (v2 := .slice Ag ng cg) (fun b hb e => by have := kw b e; have := kg b hb; omega) y10
  replace t0 := y10.cell t0 (fun e => by have := kg _ e.symm; simp only at this; omega)
  replace t1 := y10.cell t1 (fun e => by have := kg _ e.symm; simp only at this; omega)
  replace t2 := y10.cell t2 (fun e => by have := kg _ e.symm; simp only at this; omega)
  replace u0 := y10.cell u0 (fun e => by have := kg _ e.symm; simp only at this; omega)
  replace u1 := y10.cell u1 (fun e => by have := kg _ e.symm; simp only at this; omega)
  replace u2 := y10.cell u2 (fun e => by have := kg _ e.symm; simp only at this; omega)
  replace pg := q10
  clear y10
  go_wp2_with fail
  (with_reducible refine (heldStringS_any _ _ _ 1 _ _ (Nat.le_refl _) (by rw [Hg.out]; exact hlen) (by omega) (by omega) (own_sl encS_len (by omega) pg)).mono ?_)
  rintro r w11 ⟨rfl, b11⟩
  replace pw := own_below pw b11
  replace pg := own_below pg b11
  replace t0 := below_cell t0 b11
  replace t1 := below_cell t1 b11
  replace t2 := below_cell t2 b11
  replace u0 := below_cell u0 b11
  replace u1 := below_cell u1 b11
  replace u2 := below_cell u2 b11
  have z11 := b11.size
  have e11 := e10.trans (b11.mono e10.size)
  clear b11 e10
  go_wp2_with fail
  (with_reducible refine (cA _ e11.size (hx.below e11)).mono ?_)
  rintro r w12 ⟨gha, ghb, ghc, rfl, xh, b12⟩
  replace pw := own_below pw b12
  replace pg := own_below pg b12
  replace t0 := below_cell t0 b12
  replace t1 := below_cell t1 b12
  replace t2 := below_cell t2 b12
  replace u0 := below_cell u0 b12
  replace u1 := below_cell u1 b12
  replace u2 := below_cell u2 b12
  have z12 := b12.size
  have e12 := e11.trans (b12.mono e11.size)
  clear b12 e11
  go_wp2_with fail
  (with_reducible refine (cI _ _ _ _ xh.sl).mono ?_)
  rintro r w13 ⟨Ah, nh, ch, rfl, ph, b13⟩
  replace pw := own_below pw b13
  replace pg := own_below pg b13
  replace xh := xh.below b13
  replace t0 := below_cell t0 b13
  replace t1 := below_cell t1 b13
  replace t2 := below_cell t2 b13
  replace u0 := below_cell u0 b13
  replace u1 := below_cell u1 b13
  replace u2 := below_cell u2 b13
  have z13 := b13.size
  have e13 := e12.trans (b13.mono e12.size)
  clear b13 e12
  have hlh := ph.lt
  have HMh := hid (own_len encS_len (by omega) ph)
  clear xh
  have Hh := hid HMh.out
  go_wp2_with fail
  (with_reducible refine (eqStringS_yes _ _ _ _ _ _ _ _ (Nat.le_refl _) _ (by rw [Hh.out]; exact hlen) (own_sl encS_len (by omega) ph) (own_sl encS_len (by omega) pw)).mono ?_)
  rintro r w14 ⟨rfl, b14⟩
  replace pw := own_below pw b14
  replace pg := own_below pg b14
  replace ph := own_below ph b14
  replace t0 := below_cell t0 b14
  replace t1 := below_cell t1 b14
  replace t2 := below_cell t2 b14
  replace u0 := below_cell u0 b14
  replace u1 := below_cell u1 b14
  replace u2 := below_cell u2 b14
  have z14 := b14.size
  have e14 := e13.trans (b14.mono e13.size)
  clear b14 e13
  clear ph
  go_wp2_with fail
  (with_reducible refine (heldStringS_any _ _ _ 1 _ _ (Nat.le_refl _) (by rw [Hg.out]; exact hlen) (by omega) (by omega) (own_sl encS_len (by omega) pg)).mono ?_)
  rintro r w15 ⟨rfl, b15⟩
  replace pw := own_below pw b15
  replace pg := own_below pg b15
  replace t0 := below_cell t0 b15
  replace t1 := below_cell t1 b15
  replace t2 := below_cell t2 b15
  replace u0 := below_cell u0 b15
  replace u1 := below_cell u1 b15
  replace u2 := below_cell u2 b15
  have z15 := b15.size
  have e15 := e14.trans (b15.mono e14.size)
  clear b15 e14
  go_wp2_with fail
  go_ret
  exact ⟨rfl, e15⟩
end Go.Proofs.Ythlnkniofpapmaa
