/-
  The statement on ShortestRound, walked. No condition.
-/
import Derived.Test.YteckfjnglmkenaaPShort6
namespace Go.Proofs.Yteckfjnglmkenaa
open Go.RowKit
set_option maxHeartbeats 400000

set_option maxHeartbeats 4000000 in
set_option maxRecDepth 100000 in
theorem FnExactShortestRound_walk (A : Option Addr) (n c : Nat) (rs : List Row) (A1 : Option Addr) (m1 c1 : Nat) (ps : List Int) (w : World) (hn : n ≤ 9223372036854775807) (hr : ∀ r ∈ rs, r.n ≤ 9223372036854775807) (hm1 : m1 ≤ 9223372036854775807) (hx : SlS w w.heap.size A n rs) (hy1 : Sl w w.heap.size 1 encI A1 m1 ps) :
    Calls Try.prog 3 #[.slice A n c, .slice A1 m1 c1] w fun r w' => r = .returned (.bool true) ∧ Below w.heap.size w w' := by
  obtain ⟨R, hR⟩ : ∃ R, R = shortF (cont rs) ps := ⟨_, rfl⟩
  have hlen : R.1.length ≤ 2000000 := by rw [hR]; exact shortF_len _ _
  obtain ⟨r1, r2, r3⟩ := R
  have HS : ∀ (A : Option Addr) (n c : Nat) (rs' : List Row) (A1 : Option Addr) (m1 c1 : Nat) (w : World) (B : Nat), B ≤ w.heap.size → n + tot rs' ≤ 2000000 → m1 ≤ 2000000 → m1 ≤ c1 → SlS w B A n rs' → Sl w B 1 encI A1 m1 ps → cont rs' = cont rs → Calls Try.prog 6 #[.slice A n c, .slice A1 m1 c1] w (fun r w' => ∃ A0 n0 c0, r = .returned (.tuple #[.slice A0 n0 c0, .int .i64 r2, .int .i64 r3]) ∧ w'.ownsRow w.heap.size 2 1 (.slice A0 n0 c0) n0 (r1.flatMap encI) ∧ Below w.heap.size w w') := fun A n c rs' A1 m1 c1 w B hB hn h1 hcp hx k1 e => by have := specShortestRound_any A n c rs' A1 m1 c1 ps w B hB hn h1 hcp hx k1; rw [e, ← hR] at this; exact this
  have HI : ∀ (A : Option Addr) (n c : Nat) (rs' : List Row) (A1 : Option Addr) (m1 c1 : Nat) (w : World) (B : Nat), B ≤ w.heap.size → n + tot rs' ≤ 2000000 → m1 ≤ 2000000 → m1 ≤ c1 → SlS w B A n rs' → Sl w B 1 encI A1 m1 ps → cont rs' = cont rs → Calls Try.prog 9 #[.slice A n c, .slice A1 m1 c1] w (fun r w' => ∃ A0 n0 c0, r = .returned (.tuple #[.slice A0 n0 c0, .int .i64 r2, .int .i64 r3]) ∧ w'.ownsRow w.heap.size 2 1 (.slice A0 n0 c0) n0 (r1.flatMap encI) ∧ Below w.heap.size w w') := fun A n c rs' A1 m1 c1 w B hB hn h1 hcp hx k1 e => by have := implShortestRound_any A n c rs' A1 m1 c1 ps w B hB hn h1 hx k1; rw [e, ← hR] at this; exact this
  clear hR
  replace hlen : r1.length ≤ 2000000 := hlen
  go_enter Try.func3, Try.ntmps3
  by_cases hg1 : 1048576 < m1
  · go_wp2_with fail
    go_ret
    exact ⟨rfl, Below.refl _ _⟩
  ·
    go_wp2_with fail
    refine (szInt64SS_any _ _ _ _ _ _ _ (Nat.le_refl _) hn (by omega) (by omega) hx hr).mono ?_
    rintro e w' ⟨rfl, rfl⟩
    by_cases hb : n + tot rs ≤ 1048576
    · have h0 : ¬ szv 1048576 (n + tot rs) < 0 := by unfold szv; split <;> omega
      have c0 : Below w'.heap.size w' w' := Below.refl _ _
      go_wp2_with fail
      refine (toInt64SS_any A n c rs _ _ c0.size (by omega) (hx.below c0)).mono ?_
      rintro r w1 ⟨ga, rsa, rfl, oa, esa, tsa, b1⟩
      have z1 := b1.size
      have e1 := c0.trans (b1.mono c0.size)
      clear b1
      have Esa := hid esa
      clear esa
      go_wp2_with fail
      refine (toInt64S_any A1 m1 c1 ps _ _ e1.size (by omega) (hy1.below e1)).mono ?_
      rintro r w2 ⟨ga1, rfl, oa1, b2⟩
      replace oa := oa.below b2
      have z2 := b2.size
      have e2 := e1.trans (b2.mono e1.size)
      clear b2 e1
      go_wp2_with fail
      refine (HS _ _ _ rsa _ _ _ _ _ (Nat.le_refl _) (by omega) (by omega) (Nat.le_refl _) oa.slS (own_sl encI_len (by omega) oa1) Esa.out).mono ?_
      rintro r w3 ⟨Aw, nw, cw, rfl, pw, b3⟩
      replace oa := oa.below b3
      replace oa1 := own_below oa1 b3
      have z3 := b3.size
      have e3 := e2.trans (b3.mono e2.size)
      clear b3 e2
      have hlw := pw.lt
      have HMw := hid (own_len encI_len (by omega) pw)
      clear oa
      clear oa1
      have lo0 : w3.heap.size = w3.heap.size := rfl
      go_wp2_with fail
      refine (toInt64SS_any A n c rs _ _ e3.size (by omega) (hx.below e3)).mono ?_
      rintro r w4 ⟨gx, rsx, rfl, ox, esx, tsx, b4⟩
      replace pw := own_below pw b4
      have z4 := b4.size
      have e4 := e3.trans (b4.mono e3.size)
      clear b4 e3
      have Esx := hid esx
      clear esx
      have kx : ∀ (i : Nat) (r : Row), rsx[i]? = some r → ∀ b, (Value.slice r.A r.n r.c).ownBlock = some b → w3.heap.size ≤ b ∧ b < w4.heap.size := fun i r hir b hb => (ox.row i r hir).lt b hb
      go_wp2_with fail
      refine (toInt64S_any A1 m1 c1 ps _ _ e4.size (by omega) (hy1.below e4)).mono ?_
      rintro r w5 ⟨gx1, rfl, ox1, b5⟩
      replace pw := own_below pw b5
      replace ox := ox.below b5
      have z5 := b5.size
      have e5 := e4.trans (b5.mono e4.size)
      clear b5 e4
      have kx1 := own_lt ox1
      go_wp2_with fail
      refine (HI _ _ _ rsx _ _ _ _ _ (Nat.le_refl _) (by omega) (by omega) (Nat.le_refl _) ox.slS (own_sl encI_len (by omega) ox1) Esx.out).mono ?_
      rintro r w6 ⟨Ag, ng, cg, rfl, pg, b6⟩
      replace pw := own_below pw b6
      replace ox := ox.below b6
      replace ox1 := own_below ox1 b6
      have z6 := b6.size
      have e6 := e5.trans (b6.mono e5.size)
      clear b6 e5
      have hlg := pg.lt
      have HMg := hid (own_len encI_len (by omega) pg)
      have HMW := HMw.out
      have HMG := HMg.out
      have Hw := hid HMW
      have Hg := hid HMG
      clear HMW HMG
      have kw : ∀ b, (Value.slice Aw nw cw).ownBlock = some b → b < w3.heap.size := fun b hb => (hlw b hb).2
      have kg : ∀ b, (Value.slice Ag ng cg).ownBlock = some b → w5.heap.size ≤ b := fun b hb => (hlg b hb).1
      clear hlw hlg
      go_wp2_with fail
      refine (eqInt64S_yes _ _ _ _ _ _ _ _ (Nat.le_refl _) _ (by rw [Hg.out]; exact hlen) (own_sl encI_len (by omega) pg) (own_sl encI_len (by omega) pw)).mono ?_
      rintro r w7 ⟨rfl, b7⟩
      replace pw := own_below pw b7
      replace ox := ox.below b7
      replace ox1 := own_below ox1 b7
      replace pg := own_below pg b7
      have z7 := b7.size
      have e7 := e6.trans (b7.mono e6.size)
      clear b7 e6
      go_wp2_with fail
      refine (toInt64SS_any A n c rs _ _ e7.size (by omega) (hx.below e7)).mono ?_
      rintro r w8 ⟨gy, rsy, rfl, oy, esy, tsy, b8⟩
      replace pw := own_below pw b8
      replace ox := ox.below b8
      replace ox1 := own_below ox1 b8
      replace pg := own_below pg b8
      have z8 := b8.size
      have e8 := e7.trans (b8.mono e7.size)
      clear b8 e7
      have Esy := hid esy
      clear esy
      go_wp2_with fail
      refine (eqInt64SS_yes _ _ _ _ _ _ _ _ (Nat.le_refl _) rsx rsy (by omega) ox.slS oy.slS (Esy.out.trans Esx.out.symm)).mono ?_
      rintro r w9 ⟨rfl, b9⟩
      replace pw := own_below pw b9
      replace ox := ox.below b9
      replace ox1 := own_below ox1 b9
      replace pg := own_below pg b9
      replace oy := oy.below b9
      have z9 := b9.size
      have e9 := e8.trans (b9.mono e8.size)
      clear b9 e8
      clear oy
      go_wp2_with fail
      refine (toInt64S_any A1 m1 c1 ps _ _ e9.size (by omega) (hy1.below e9)).mono ?_
      rintro r w10 ⟨gy1, rfl, oy1, b10⟩
      replace pw := own_below pw b10
      replace ox := ox.below b10
      replace ox1 := own_below ox1 b10
      replace pg := own_below pg b10
      have z10 := b10.size
      have e10 := e9.trans (b10.mono e9.size)
      clear b10 e9
      go_wp2_with fail
      refine (eqInt64S_yes _ _ _ _ _ _ _ _ (Nat.le_refl _) _ (by omega) (own_sl encI_len (by omega) ox1) (own_sl encI_len (by omega) oy1)).mono ?_
      rintro r w11 ⟨rfl, b11⟩
      replace pw := own_below pw b11
      replace ox := ox.below b11
      replace ox1 := own_below ox1 b11
      replace pg := own_below pg b11
      replace oy1 := own_below oy1 b11
      have z11 := b11.size
      have e11 := e10.trans (b11.mono e10.size)
      clear b11 e10
      clear oy1
      go_wp2_with fail
      refine (markInt64SS_any _ w3.heap.size w4.heap.size _ _ _ rsx 1 _ (by omega) (by omega) (by omega) ox kx).mono ?_
      rintro r w12 ⟨rfl, y12⟩
      have z12 := y12.size
      have e12 := y12.toBelow e11 (by omega) (by omega)
      replace pw := y12.own pw (fun b hb => by have := kw b hb; omega)
      replace pg := y12.own pg (fun b hb => by have := kg b hb; omega)
      replace ox1 := y12.own ox1 (fun b hb => by simp [Value.ownBlock] at hb; omega)
      clear ox y12
      go_wp2_with fail
      refine (markInt64S_any _ _ _ _ _ _ _ (by omega) (by omega) (by omega) ox1).mono ?_
      rintro r w13 ⟨rfl, _, y13⟩
      have z13 := y13.size
      have e13 := grown_below e12 y13 e12.size (fun b hb => by simp [Value.ownBlock] at hb; omega)
      replace pw := own_keep pw (v2 := .slice (some ⟨gx1, 0, none⟩) m1 m1) (fun b hb e => by have := kw b e; simp [Value.ownBlock] at hb; omega) y13
      replace pg := own_keep pg (v2 := .slice (some ⟨gx1, 0, none⟩) m1 m1) (fun b hb e => by have := kg b e; simp [Value.ownBlock] at hb; omega) y13
      clear ox1 y13
      go_wp2_with fail
      refine (eqInt64S_yes _ _ _ _ _ _ _ _ (Nat.le_refl _) _ (by rw [Hg.out]; exact hlen) (own_sl encI_len (by omega) pg) (own_sl encI_len (by omega) pw)).mono ?_
      rintro r w14 ⟨rfl, b14⟩
      replace pw := own_below pw b14
      replace pg := own_below pg b14
      have z14 := b14.size
      have e14 := e13.trans (b14.mono e13.size)
      clear b14 e13
      go_wp2_with fail
      refine (markInt64S_any _ _ _ _ _ 1 _ (by rw [Hg.out]; exact hlen) (by omega) (by omega) pg).mono ?_
      rintro r w15 ⟨rfl, q15, y15⟩
      have z15 := y15.size
      have e15 := grown_below e14 y15 e14.size (fun b hb => by have := kg b hb; omega)
      replace pw := own_keep pw (v2 := .slice Ag ng cg) (fun b hb e => by have := kw b e; have := kg b hb; omega) y15
      replace pg := q15
      clear y15
      go_wp2_with fail
      refine (heldInt64S_any _ _ _ 1 _ _ (by rw [Hg.out]; exact hlen) (by omega) (by omega) (own_sl encI_len (by omega) pg)).mono ?_
      rintro r w16 ⟨rfl, b16⟩
      replace pw := own_below pw b16
      replace pg := own_below pg b16
      have z16 := b16.size
      have e16 := e15.trans (b16.mono e15.size)
      clear b16 e15
      go_wp2_with fail
      refine (toInt64SS_any A n c rs _ _ e16.size (by omega) (hx.below e16)).mono ?_
      rintro r w17 ⟨gh, rsh, rfl, oh, esh, tsh, b17⟩
      replace pw := own_below pw b17
      replace pg := own_below pg b17
      have z17 := b17.size
      have e17 := e16.trans (b17.mono e16.size)
      clear b17 e16
      have Esh := hid esh
      clear esh
      go_wp2_with fail
      refine (toInt64S_any A1 m1 c1 ps _ _ e17.size (by omega) (hy1.below e17)).mono ?_
      rintro r w18 ⟨gh1, rfl, oh1, b18⟩
      replace pw := own_below pw b18
      replace pg := own_below pg b18
      replace oh := oh.below b18
      have z18 := b18.size
      have e18 := e17.trans (b18.mono e17.size)
      clear b18 e17
      go_wp2_with fail
      refine (HI _ _ _ rsh _ _ _ _ _ (Nat.le_refl _) (by omega) (by omega) (Nat.le_refl _) oh.slS (own_sl encI_len (by omega) oh1) Esh.out).mono ?_
      rintro r w19 ⟨Ah, nh, ch, rfl, ph, b19⟩
      replace pw := own_below pw b19
      replace pg := own_below pg b19
      replace oh := oh.below b19
      replace oh1 := own_below oh1 b19
      have z19 := b19.size
      have e19 := e18.trans (b19.mono e18.size)
      clear b19 e18
      have hlh := ph.lt
      have HMh := hid (own_len encI_len (by omega) ph)
      clear oh
      clear oh1
      have Hh := hid HMh.out
      go_wp2_with fail
      refine (eqInt64S_yes _ _ _ _ _ _ _ _ (Nat.le_refl _) _ (by rw [Hh.out]; exact hlen) (own_sl encI_len (by omega) ph) (own_sl encI_len (by omega) pw)).mono ?_
      rintro r w20 ⟨rfl, b20⟩
      replace pw := own_below pw b20
      replace pg := own_below pg b20
      replace ph := own_below ph b20
      have z20 := b20.size
      have e20 := e19.trans (b20.mono e19.size)
      clear b20 e19
      clear ph
      go_wp2_with fail
      refine (heldInt64S_any _ _ _ 1 _ _ (by rw [Hg.out]; exact hlen) (by omega) (by omega) (own_sl encI_len (by omega) pg)).mono ?_
      rintro r w21 ⟨rfl, b21⟩
      replace pw := own_below pw b21
      replace pg := own_below pg b21
      have z21 := b21.size
      have e21 := e20.trans (b21.mono e20.size)
      clear b21 e20
      go_wp2_with fail
      go_ret
      exact ⟨rfl, e21⟩
    · have h0 : szv 1048576 (n + tot rs) < 0 := by unfold szv; split <;> omega
      go_wp2_with fail
      go_ret
      exact ⟨rfl, Below.refl _ _⟩
end Go.Proofs.Yteckfjnglmkenaa
