/-
  The statement on LoadsOf, walked. No condition.
-/
import Derived.Test.YtibdgnpkkhjfaaaGLoads2
namespace Go.Proofs.Ytibdgnpkkhjfaaa
open Go.RowKit
set_option maxHeartbeats 400000

set_option maxHeartbeats 4000000 in
set_option maxRecDepth 100000 in
theorem FnExactLoadsOf_walk (A : Option Addr) (n c : Nat) (rs : List Row) (A1 : Option Addr) (m1 c1 : Nat) (ps : List Int) (A2 : Option Addr) (m2 c2 : Nat) (ds : List Int) (w : World) (hn : n ≤ 9223372036854775807) (hr : ∀ r ∈ rs, r.n ≤ 9223372036854775807) (hm1 : m1 ≤ 9223372036854775807) (hm2 : m2 ≤ 9223372036854775807) (hx : SlS w w.heap.size A n rs) (hy1 : Sl w w.heap.size 1 encI A1 m1 ps) (hy2 : Sl w w.heap.size 1 encI A2 m2 ds) :
    Calls Try.prog 8 #[.slice A n c, .slice A1 m1 c1, .slice A2 m2 c2] w fun r w' => r = .returned (.bool true) ∧ Below w.heap.size w w' := by
  obtain ⟨R, hR⟩ : ∃ R, R = loadsF (cont rs) ps ds := ⟨_, rfl⟩
  have hlen : R.1.length ≤ 2000000 := by rw [hR]; exact loadsF_len _ _ _
  obtain ⟨r1, r2⟩ := R
  have HS : ∀ (A : Option Addr) (n c : Nat) (rs' : List Row) (A1 : Option Addr) (m1 c1 : Nat) (A2 : Option Addr) (m2 c2 : Nat) (w : World) (B : Nat), B ≤ w.heap.size → n + tot rs' ≤ 2000000 → m1 ≤ 2000000 → m2 ≤ 2000000 → SlS w B A n rs' → Sl w B 1 encI A1 m1 ps → Sl w B 1 encI A2 m2 ds → cont rs' = cont rs → Calls Try.prog 32 #[.slice A n c, .slice A1 m1 c1, .slice A2 m2 c2] w (fun r w' => ∃ A0 n0 c0, r = .returned (.tuple #[.slice A0 n0 c0, .int .i64 r2]) ∧ w'.ownsRow w.heap.size 2 1 (.slice A0 n0 c0) n0 (r1.flatMap encI) ∧ Below w.heap.size w w') := fun A n c rs' A1 m1 c1 A2 m2 c2 w B hB hn h1 h2 hx k1 k2 e => by have := specLoadsOf_any A n c rs' A1 m1 c1 ps A2 m2 c2 ds w B hB hn h1 h2 hx k1 k2; rw [e, ← hR] at this; exact this
  have HI : ∀ (A : Option Addr) (n c : Nat) (rs' : List Row) (A1 : Option Addr) (m1 c1 : Nat) (A2 : Option Addr) (m2 c2 : Nat) (w : World) (B : Nat), B ≤ w.heap.size → n + tot rs' ≤ 2000000 → m1 ≤ 2000000 → m2 ≤ 2000000 → SlS w B A n rs' → Sl w B 1 encI A1 m1 ps → Sl w B 1 encI A2 m2 ds → cont rs' = cont rs → Calls Try.prog 33 #[.slice A n c, .slice A1 m1 c1, .slice A2 m2 c2] w (fun r w' => ∃ A0 n0 c0, r = .returned (.tuple #[.slice A0 n0 c0, .int .i64 r2]) ∧ w'.ownsRow w.heap.size 2 1 (.slice A0 n0 c0) n0 (r1.flatMap encI) ∧ Below w.heap.size w w') := fun A n c rs' A1 m1 c1 A2 m2 c2 w B hB hn h1 h2 hx k1 k2 e => by have := implLoadsOf_any A n c rs' A1 m1 c1 ps A2 m2 c2 ds w B hB hn h1 h2 hx k1 k2; rw [e, ← hR] at this; exact this
  clear hR
  replace hlen : r1.length ≤ 2000000 := hlen
  go_enter Try.func8, Try.ntmps8
  by_cases hg1 : 1048576 < m1
  · go_wp2_with fail
    go_ret
    exact ⟨rfl, Below.refl _ _⟩
  ·
    by_cases hg2 : 1048576 < m2
    · go_wp2_with fail
      go_ret
      exact ⟨rfl, Below.refl _ _⟩
    ·
      go_wp2_with fail
      refine (szInt64SS_any _ _ _ _ _ _ _ (Nat.le_refl _) hn (by omega) (by omega) hx hr).mono ?_
      rintro e w' ⟨rfl, rfl⟩
      by_cases hb : n + tot rs ≤ 1048576
      · have h0 : ¬ szv 1048576 (n + tot rs) < 0 := by unfold szv; split <;> omega
        have c0 : Below w'.heap.size w' w' := Below.refl _ _
        go_wp2_with fail
        refine (toInt64SS_any A n c rs _ _ c0.size (by omega) (hx.below c0)).mono ?_
        rintro r w1 ⟨ga, rsa, rfl, oa, esa, tsa, b1⟩
        have z1 := b1.size
        have e1 := c0.trans (b1.mono c0.size)
        clear b1
        have Esa := hid esa
        clear esa
        go_wp2_with fail
        refine (toInt64S_any A1 m1 c1 ps _ _ e1.size (by omega) (hy1.below e1)).mono ?_
        rintro r w2 ⟨ga1, rfl, oa1, b2⟩
        replace oa := oa.below b2
        have z2 := b2.size
        have e2 := e1.trans (b2.mono e1.size)
        clear b2 e1
        go_wp2_with fail
        refine (toInt64S_any A2 m2 c2 ds _ _ e2.size (by omega) (hy2.below e2)).mono ?_
        rintro r w3 ⟨ga2, rfl, oa2, b3⟩
        replace oa := oa.below b3
        replace oa1 := own_below oa1 b3
        have z3 := b3.size
        have e3 := e2.trans (b3.mono e2.size)
        clear b3 e2
        go_wp2_with fail
        refine (HS _ _ _ rsa _ _ _ _ _ _ _ _ (Nat.le_refl _) (by omega) (by omega) (by omega) oa.slS (own_sl encI_len (by omega) oa1) (own_sl encI_len (by omega) oa2) Esa.out).mono ?_
        rintro r w4 ⟨Aw, nw, cw, rfl, pw, b4⟩
        replace oa := oa.below b4
        replace oa1 := own_below oa1 b4
        replace oa2 := own_below oa2 b4
        have z4 := b4.size
        have e4 := e3.trans (b4.mono e3.size)
        clear b4 e3
        have hlw := pw.lt
        have HMw := hid (own_len encI_len (by omega) pw)
        clear oa
        clear oa1
        clear oa2
        have lo0 : w4.heap.size = w4.heap.size := rfl
        go_wp2_with fail
        refine (toInt64SS_any A n c rs _ _ e4.size (by omega) (hx.below e4)).mono ?_
        rintro r w5 ⟨gx, rsx, rfl, ox, esx, tsx, b5⟩
        replace pw := own_below pw b5
        have z5 := b5.size
        have e5 := e4.trans (b5.mono e4.size)
        clear b5 e4
        have Esx := hid esx
        clear esx
        have kx : ∀ (i : Nat) (r : Row), rsx[i]? = some r → ∀ b, (Value.slice r.A r.n r.c).ownBlock = some b → w4.heap.size ≤ b ∧ b < w5.heap.size := fun i r hir b hb => (ox.row i r hir).lt b hb
        go_wp2_with fail
        refine (toInt64S_any A1 m1 c1 ps _ _ e5.size (by omega) (hy1.below e5)).mono ?_
        rintro r w6 ⟨gx1, rfl, ox1, b6⟩
        replace pw := own_below pw b6
        replace ox := ox.below b6
        have z6 := b6.size
        have e6 := e5.trans (b6.mono e5.size)
        clear b6 e5
        have kx1 := own_lt ox1
        go_wp2_with fail
        refine (toInt64S_any A2 m2 c2 ds _ _ e6.size (by omega) (hy2.below e6)).mono ?_
        rintro r w7 ⟨gx2, rfl, ox2, b7⟩
        replace pw := own_below pw b7
        replace ox := ox.below b7
        replace ox1 := own_below ox1 b7
        have z7 := b7.size
        have e7 := e6.trans (b7.mono e6.size)
        clear b7 e6
        have kx2 := own_lt ox2
        go_wp2_with fail
        refine (HI _ _ _ rsx _ _ _ _ _ _ _ _ (Nat.le_refl _) (by omega) (by omega) (by omega) ox.slS (own_sl encI_len (by omega) ox1) (own_sl encI_len (by omega) ox2) Esx.out).mono ?_
        rintro r w8 ⟨Ag, ng, cg, rfl, pg, b8⟩
        replace pw := own_below pw b8
        replace ox := ox.below b8
        replace ox1 := own_below ox1 b8
        replace ox2 := own_below ox2 b8
        have z8 := b8.size
        have e8 := e7.trans (b8.mono e7.size)
        clear b8 e7
        have hlg := pg.lt
        have HMg := hid (own_len encI_len (by omega) pg)
        have HMW := HMw.out
        have HMG := HMg.out
        have Hw := hid HMW
        have Hg := hid HMG
        clear HMW HMG
        have kw : ∀ b, (Value.slice Aw nw cw).ownBlock = some b → b < w4.heap.size := fun b hb => (hlw b hb).2
        have kg : ∀ b, (Value.slice Ag ng cg).ownBlock = some b → w7.heap.size ≤ b := fun b hb => (hlg b hb).1
        clear hlw hlg
        go_wp2_with fail
        refine (eqInt64S_yes _ _ _ _ _ _ _ _ (Nat.le_refl _) _ (by rw [Hg.out]; exact hlen) (own_sl encI_len (by omega) pg) (own_sl encI_len (by omega) pw)).mono ?_
        rintro r w9 ⟨rfl, b9⟩
        replace pw := own_below pw b9
        replace ox := ox.below b9
        replace ox1 := own_below ox1 b9
        replace ox2 := own_below ox2 b9
        replace pg := own_below pg b9
        have z9 := b9.size
        have e9 := e8.trans (b9.mono e8.size)
        clear b9 e8
        go_wp2_with fail
        refine (toInt64SS_any A n c rs _ _ e9.size (by omega) (hx.below e9)).mono ?_
        rintro r w10 ⟨gy, rsy, rfl, oy, esy, tsy, b10⟩
        replace pw := own_below pw b10
        replace ox := ox.below b10
        replace ox1 := own_below ox1 b10
        replace ox2 := own_below ox2 b10
        replace pg := own_below pg b10
        have z10 := b10.size
        have e10 := e9.trans (b10.mono e9.size)
        clear b10 e9
        have Esy := hid esy
        clear esy
        go_wp2_with fail
        refine (eqInt64SS_yes _ _ _ _ _ _ _ _ (Nat.le_refl _) rsx rsy (by omega) ox.slS oy.slS (Esy.out.trans Esx.out.symm)).mono ?_
        rintro r w11 ⟨rfl, b11⟩
        replace pw := own_below pw b11
        replace ox := ox.below b11
        replace ox1 := own_below ox1 b11
        replace ox2 := own_below ox2 b11
        replace pg := own_below pg b11
        replace oy := oy.below b11
        have z11 := b11.size
        have e11 := e10.trans (b11.mono e10.size)
        clear b11 e10
        clear oy
        go_wp2_with fail
        refine (toInt64S_any A1 m1 c1 ps _ _ e11.size (by omega) (hy1.below e11)).mono ?_
        rintro r w12 ⟨gy1, rfl, oy1, b12⟩
        replace pw := own_below pw b12
        replace ox := ox.below b12
        replace ox1 := own_below ox1 b12
        replace ox2 := own_below ox2 b12
        replace pg := own_below pg b12
        have z12 := b12.size
        have e12 := e11.trans (b12.mono e11.size)
        clear b12 e11
        go_wp2_with fail
        refine (eqInt64S_yes _ _ _ _ _ _ _ _ (Nat.le_refl _) _ (by omega) (own_sl encI_len (by omega) ox1) (own_sl encI_len (by omega) oy1)).mono ?_
        rintro r w13 ⟨rfl, b13⟩
        replace pw := own_below pw b13
        replace ox := ox.below b13
        replace ox1 := own_below ox1 b13
        replace ox2 := own_below ox2 b13
        replace pg := own_below pg b13
        replace oy1 := own_below oy1 b13
        have z13 := b13.size
        have e13 := e12.trans (b13.mono e12.size)
        clear b13 e12
        clear oy1
        go_wp2_with fail
        refine (toInt64S_any A2 m2 c2 ds _ _ e13.size (by omega) (hy2.below e13)).mono ?_
        rintro r w14 ⟨gy2, rfl, oy2, b14⟩
        replace pw := own_below pw b14
        replace ox := ox.below b14
        replace ox1 := own_below ox1 b14
        replace ox2 := own_below ox2 b14
        replace pg := own_below pg b14
        have z14 := b14.size
        have e14 := e13.trans (b14.mono e13.size)
        clear b14 e13
        go_wp2_with fail
        refine (eqInt64S_yes _ _ _ _ _ _ _ _ (Nat.le_refl _) _ (by omega) (own_sl encI_len (by omega) ox2) (own_sl encI_len (by omega) oy2)).mono ?_
        rintro r w15 ⟨rfl, b15⟩
        replace pw := own_below pw b15
        replace ox := ox.below b15
        replace ox1 := own_below ox1 b15
        replace ox2 := own_below ox2 b15
        replace pg := own_below pg b15
        replace oy2 := own_below oy2 b15
        have z15 := b15.size
        have e15 := e14.trans (b15.mono e14.size)
        clear b15 e14
        clear oy2
        go_wp2_with fail
        refine (markInt64SS_any _ w4.heap.size w5.heap.size _ _ _ rsx 1 _ (by omega) (by omega) (by omega) ox kx).mono ?_
        rintro r w16 ⟨rfl, y16⟩
        have z16 := y16.size
        have e16 := y16.toBelow e15 (by omega) (by omega)
        replace pw := y16.own pw (fun b hb => by have := kw b hb; omega)
        replace pg := y16.own pg (fun b hb => by have := kg b hb; omega)
        replace ox1 := y16.own ox1 (fun b hb => by simp [Value.ownBlock] at hb; omega)
        replace ox2 := y16.own ox2 (fun b hb => by simp [Value.ownBlock] at hb; omega)
        clear ox y16
        go_wp2_with fail
        refine (markInt64S_any _ _ _ _ _ _ _ (by omega) (by omega) (by omega) ox1).mono ?_
        rintro r w17 ⟨rfl, _, y17⟩
        have z17 := y17.size
        have e17 := grown_below e16 y17 e16.size (fun b hb => by simp [Value.ownBlock] at hb; omega)
        replace pw := own_keep pw (v2 := .slice (some ⟨gx1, 0, none⟩) m1 m1) (fun b hb e => by have := kw b e; simp [Value.ownBlock] at hb; omega) y17
        replace pg := own_keep pg (v2 := .slice (some ⟨gx1, 0, none⟩) m1 m1) (fun b hb e => by have := kg b e; simp [Value.ownBlock] at hb; omega) y17
        replace ox2 := own_keep ox2 (v2 := .slice (some ⟨gx1, 0, none⟩) m1 m1) (fun b hb e => by simp [Value.ownBlock] at hb e; omega) y17
        clear ox1 y17
        go_wp2_with fail
        refine (markInt64S_any _ _ _ _ _ _ _ (by omega) (by omega) (by omega) ox2).mono ?_
        rintro r w18 ⟨rfl, _, y18⟩
        have z18 := y18.size
        have e18 := grown_below e17 y18 e17.size (fun b hb => by simp [Value.ownBlock] at hb; omega)
        replace pw := own_keep pw (v2 := .slice (some ⟨gx2, 0, none⟩) m2 m2) (fun b hb e => by have := kw b e; simp [Value.ownBlock] at hb; omega) y18
        replace pg := own_keep pg (v2 := .slice (some ⟨gx2, 0, none⟩) m2 m2) (fun b hb e => by have := kg b e; simp [Value.ownBlock] at hb; omega) y18
        clear ox2 y18
        go_wp2_with fail
        refine (eqInt64S_yes _ _ _ _ _ _ _ _ (Nat.le_refl _) _ (by rw [Hg.out]; exact hlen) (own_sl encI_len (by omega) pg) (own_sl encI_len (by omega) pw)).mono ?_
        rintro r w19 ⟨rfl, b19⟩
        replace pw := own_below pw b19
        replace pg := own_below pg b19
        have z19 := b19.size
        have e19 := e18.trans (b19.mono e18.size)
        clear b19 e18
        go_wp2_with fail
        refine (markInt64S_any _ _ _ _ _ 1 _ (by rw [Hg.out]; exact hlen) (by omega) (by omega) pg).mono ?_
        rintro r w20 ⟨rfl, q20, y20⟩
        have z20 := y20.size
        have e20 := grown_below e19 y20 e19.size (fun b hb => by have := kg b hb; omega)
        replace pw := own_keep pw (v2 := .slice Ag ng cg) (fun b hb e => by have := kw b e; have := kg b hb; omega) y20
        replace pg := q20
        clear y20
        go_wp2_with fail
        refine (heldInt64S_any _ _ _ 1 _ _ (by rw [Hg.out]; exact hlen) (by omega) (by omega) (own_sl encI_len (by omega) pg)).mono ?_
        rintro r w21 ⟨rfl, b21⟩
        replace pw := own_below pw b21
        replace pg := own_below pg b21
        have z21 := b21.size
        have e21 := e20.trans (b21.mono e20.size)
        clear b21 e20
        go_wp2_with fail
        refine (toInt64SS_any A n c rs _ _ e21.size (by omega) (hx.below e21)).mono ?_
        rintro r w22 ⟨gh, rsh, rfl, oh, esh, tsh, b22⟩
        replace pw := own_below pw b22
        replace pg := own_below pg b22
        have z22 := b22.size
        have e22 := e21.trans (b22.mono e21.size)
        clear b22 e21
        have Esh := hid esh
        clear esh
        go_wp2_with fail
        refine (toInt64S_any A1 m1 c1 ps _ _ e22.size (by omega) (hy1.below e22)).mono ?_
        rintro r w23 ⟨gh1, rfl, oh1, b23⟩
        replace pw := own_below pw b23
        replace pg := own_below pg b23
        replace oh := oh.below b23
        have z23 := b23.size
        have e23 := e22.trans (b23.mono e22.size)
        clear b23 e22
        go_wp2_with fail
        refine (toInt64S_any A2 m2 c2 ds _ _ e23.size (by omega) (hy2.below e23)).mono ?_
        rintro r w24 ⟨gh2, rfl, oh2, b24⟩
        replace pw := own_below pw b24
        replace pg := own_below pg b24
        replace oh := oh.below b24
        replace oh1 := own_below oh1 b24
        have z24 := b24.size
        have e24 := e23.trans (b24.mono e23.size)
        clear b24 e23
        go_wp2_with fail
        refine (HI _ _ _ rsh _ _ _ _ _ _ _ _ (Nat.le_refl _) (by omega) (by omega) (by omega) oh.slS (own_sl encI_len (by omega) oh1) (own_sl encI_len (by omega) oh2) Esh.out).mono ?_
        rintro r w25 ⟨Ah, nh, ch, rfl, ph, b25⟩
        replace pw := own_below pw b25
        replace pg := own_below pg b25
        replace oh := oh.below b25
        replace oh1 := own_below oh1 b25
        replace oh2 := own_below oh2 b25
        have z25 := b25.size
        have e25 := e24.trans (b25.mono e24.size)
        clear b25 e24
        have hlh := ph.lt
        have HMh := hid (own_len encI_len (by omega) ph)
        clear oh
        clear oh1
        clear oh2
        have Hh := hid HMh.out
        go_wp2_with fail
        refine (eqInt64S_yes _ _ _ _ _ _ _ _ (Nat.le_refl _) _ (by rw [Hh.out]; exact hlen) (own_sl encI_len (by omega) ph) (own_sl encI_len (by omega) pw)).mono ?_
        rintro r w26 ⟨rfl, b26⟩
        replace pw := own_below pw b26
        replace pg := own_below pg b26
        replace ph := own_below ph b26
        have z26 := b26.size
        have e26 := e25.trans (b26.mono e25.size)
        clear b26 e25
        clear ph
        go_wp2_with fail
        refine (heldInt64S_any _ _ _ 1 _ _ (by rw [Hg.out]; exact hlen) (by omega) (by omega) (own_sl encI_len (by omega) pg)).mono ?_
        rintro r w27 ⟨rfl, b27⟩
        replace pw := own_below pw b27
        replace pg := own_below pg b27
        have z27 := b27.size
        have e27 := e26.trans (b27.mono e26.size)
        clear b27 e26
        go_wp2_with fail
        go_ret
        exact ⟨rfl, e27⟩
      · have h0 : szv 1048576 (n + tot rs) < 0 := by unfold szv; split <;> omega
        go_wp2_with fail
        go_ret
        exact ⟨rfl, Below.refl _ _⟩
end Go.Proofs.Ytibdgnpkkhjfaaa
