/-
  The statement on stations dropped and renamed, walked. No condition.
-/
import Derived.Test.YtmanbpobdaamfaaSLaw0
namespace Go.Proofs.Ytmanbpobdaamfaa
open Go.RowKit
set_option maxHeartbeats 400000

set_option maxHeartbeats 32000000 in
set_option maxRecDepth 100000 in
theorem FnStationsNamed_walk (v : Value) (w : World) (hv : Bytes w w.heap.size 9223372036854775807 v) :
    Calls Try.prog 4 #[v] w fun r w' => r = .returned (.bool true) ∧ Below w.heap.size w w' := by
  obtain ⟨A0, n0, c0, bs, rfl, hn, hbx, hbz⟩ := hv
  have hbig := fun W => f6big_any A0 n0 c0 W hn
  by_cases h4 : 4096 < n0
  · have e : decide (4096 < n0) = true := by simpa using h4
    rw [e] at hbig
    clear hbx hbz h4 e
    go_enter Try.func4, Try.ntmps4
    go_wp2_with fail
    refine (hbig _).mono ?_
    rintro r w1 ⟨rfl, e⟩
    replace e := e.symm
    subst e
    go_wp2_with fail
    go_ret
    exact ⟨rfl, Below.refl _ _⟩
  · have e : decide (4096 < n0) = false := by simpa using h4
    rw [e] at hbig
    have hv : Bytes w w.heap.size 5000 (.slice A0 n0 c0) := ⟨A0, n0, c0, bs, rfl, by omega, hbx, hbz⟩
    have HV := hid hv
    clear hbx hbz h4 e hv
    go_enter Try.func4, Try.ntmps4
    go_wp2_with fail
    refine (hbig _).mono ?_
    rintro r w1 ⟨rfl, e⟩
    replace e := e.symm
    subst e
    clear hbig
    have E := Below.refl w.heap.size w
    go_wp2_with fail
    have cc := DrawRenameStation_any (.slice A0 n0 c0) w ((HV.out.below E).more E.size)
    (try simp only [SV.v] at cc)
    refine cc.mono ?_
    rintro r u1 ⟨A1x, n1x, c1x, A2x, n2x, c2x, A3x, n3x, c3x, x, z, t, rfl, ox, fx, hz, ht, b⟩
    clear cc
    replace E := E.trans (b.mono E.size)
    clear b
    have Xx := hid ox.sl
    have sx := hid fx.sm
    obtain ⟨R, hR⟩ : ∃ R, R = renF x z t := ⟨_, rfl⟩
    have sy := hid (fx.sm.ren (z := z) ht)
    have back : R.2 = 0 → renF R.1 t z = (x, 0) := fun h => ren_back (by rw [← hR]; exact Prod.ext rfl h)
    rw [← hR] at sy
    have HR := hid hR
    have BK := hid back
    clear ox fx hR back
    obtain ⟨y, q⟩ := R
    simp only at sy BK
    obtain ⟨u2, hu2⟩ : ∃ W, W = u1.alloc (.cells #[.slice A1x n1x c1x, .slice A2x n2x c2x, .slice A3x n3x c3x] 29) := ⟨_, rfl⟩
    have b : Below u1.heap.size u1 u2 := by rw [hu2]; exact (Below.refl _ _).alloc (Nat.le_refl _) _
    obtain ⟨gx, ex⟩ : ∃ g, g = u1.heap.size := ⟨_, rfl⟩
    have ax : At3 u2 gx A1x n1x c1x A2x n2x c2x A3x n3x c3x := by rw [hu2, ex]; exact ⟨(World.cell?_alloc_at _ _ _ _ rfl).trans rfl, (World.cell?_alloc_at _ _ _ _ rfl).trans rfl, (World.cell?_alloc_at _ _ _ _ rfl).trans rfl⟩
    replace Xx := hid (Xx.out.lift b)
    replace E := E.trans (b.mono E.size)
    have HWu2 := hid hu2
    have HEx := hid ex
    have Gx := hid ax
    clear b hu2 ex ax
    go_wp2_with fail
    rw [← HWu2.out]
    rw [← HEx.out]
    clear HWu2 HEx
    have cc := (XPost.parts (implRenameStation_any ⟨A1x, n1x, c1x, A2x, n2x, c2x, A3x, n3x, c3x⟩ x z t u2 u2.heap.size (Nat.le_refl _) (sx.out.num Xx.out) Xx.out (hid sx.out.big) (by omega) (by omega)))
    (try simp only [SV.v] at cc)
    refine cc.mono ?_
    rintro r u3 ⟨A1y, n1y, c1y, A2y, n2y, c2y, A3y, n3y, c3y, rfl, oy, b⟩
    clear cc
    replace Xx := hid (Xx.out.lift b)
    replace Gx := hid (Gx.out.lift b)
    replace E := E.trans (b.mono E.size)
    rw [← HR.out]
    rw [← HR.out] at oy
    simp only at oy
    have Xy := hid oy.sl
    clear oy
    clear b
    have gx0 := Gx.out.c0
    have gx1 := Gx.out.c1
    have gx2 := Gx.out.c2
    have gxl := Gx.out.lt
    obtain ⟨u4, hu4⟩ : ∃ W, W = u3.alloc (.cells #[.slice A1y n1y c1y, .slice A2y n2y c2y, .slice A3y n3y c3y] 29) := ⟨_, rfl⟩
    have b : Below u3.heap.size u3 u4 := by rw [hu4]; exact (Below.refl _ _).alloc (Nat.le_refl _) _
    obtain ⟨gy, ey⟩ : ∃ g, g = u3.heap.size := ⟨_, rfl⟩
    have ay : At3 u4 gy A1y n1y c1y A2y n2y c2y A3y n3y c3y := by rw [hu4, ey]; exact ⟨(World.cell?_alloc_at _ _ _ _ rfl).trans rfl, (World.cell?_alloc_at _ _ _ _ rfl).trans rfl, (World.cell?_alloc_at _ _ _ _ rfl).trans rfl⟩
    replace Xx := hid (Xx.out.lift b)
    replace Gx := hid (Gx.out.lift b)
    replace Xy := hid (Xy.out.lift b)
    replace E := E.trans (b.mono E.size)
    have HWu4 := hid hu4
    have HEy := hid ey
    have Gy := hid ay
    clear b hu4 ey ay
    go_wp2_with fail
    rw [← HWu4.out]
    rw [← HEy.out]
    clear HWu4 HEy
    clear gx0 gx1 gx2 gxl
    have cc := (XPost.parts (specRenameStation_any ⟨A1x, n1x, c1x, A2x, n2x, c2x, A3x, n3x, c3x⟩ x z t u4 u4.heap.size (Nat.le_refl _) (sx.out.num Xx.out) Xx.out (hid sx.out.big) (by omega) (by omega)))
    (try simp only [SV.v] at cc)
    refine cc.mono ?_
    rintro r u5 ⟨A1m, n1m, c1m, A2m, n2m, c2m, A3m, n3m, c3m, rfl, om, b⟩
    clear cc
    replace Xx := hid (Xx.out.lift b)
    replace Gx := hid (Gx.out.lift b)
    replace Xy := hid (Xy.out.lift b)
    replace Gy := hid (Gy.out.lift b)
    replace E := E.trans (b.mono E.size)
    rw [← HR.out]
    rw [← HR.out] at om
    simp only at om
    have Xm := hid om.sl
    clear om
    clear b
    obtain ⟨u6, hu6⟩ : ∃ W, W = u5.alloc (.cells #[.slice A1m n1m c1m, .slice A2m n2m c2m, .slice A3m n3m c3m] 29) := ⟨_, rfl⟩
    have b : Below u5.heap.size u5 u6 := by rw [hu6]; exact (Below.refl _ _).alloc (Nat.le_refl _) _
    obtain ⟨gm, em⟩ : ∃ g, g = u5.heap.size := ⟨_, rfl⟩
    have am : At3 u6 gm A1m n1m c1m A2m n2m c2m A3m n3m c3m := by rw [hu6, em]; exact ⟨(World.cell?_alloc_at _ _ _ _ rfl).trans rfl, (World.cell?_alloc_at _ _ _ _ rfl).trans rfl, (World.cell?_alloc_at _ _ _ _ rfl).trans rfl⟩
    replace Xx := hid (Xx.out.lift b)
    replace Gx := hid (Gx.out.lift b)
    replace Xy := hid (Xy.out.lift b)
    replace Gy := hid (Gy.out.lift b)
    replace Xm := hid (Xm.out.lift b)
    replace E := E.trans (b.mono E.size)
    have HWu6 := hid hu6
    have HEm := hid em
    have Gm := hid am
    clear b hu6 em am
    go_wp2_with fail
    rw [← HWu6.out]
    rw [← HEm.out]
    clear HWu6 HEm
    have cc := DrawDropStation_any (.slice A0 n0 c0) u6 ((HV.out.below E).more E.size)
    (try simp only [SV.v] at cc)
    refine cc.mono ?_
    rintro r u7 ⟨A1a, n1a, c1a, A2a, n2a, c2a, A3a, n3a, c3a, a, d, rfl, oa, fa, hd, b⟩
    clear cc
    replace Xx := hid (Xx.out.lift b)
    replace Gx := hid (Gx.out.lift b)
    replace Xy := hid (Xy.out.lift b)
    replace Gy := hid (Gy.out.lift b)
    replace Xm := hid (Xm.out.lift b)
    replace Gm := hid (Gm.out.lift b)
    replace E := E.trans (b.mono E.size)
    clear b
    have Xa := hid oa.sl
    have sa := hid fa.sm
    obtain ⟨D, hD⟩ : ∃ D, D = dropF a d := ⟨_, rfl⟩
    have sb := hid (fa.sm.drop (z := d))
    have dl : D.2 = 0 → hasS D.1.st d = false ∧ hasS D.1.rm d = false ∧ D.1.st.length + 1 = a.st.length ∧ validX D.1 = true ∧ ∀ w ∈ D.1.wy, w.fr ≠ d ∧ w.to ≠ d := fun h => drop_law (by rw [← hD]; exact Prod.ext rfl h)
    rw [← hD] at sb
    have HD := hid hD
    have DL := hid dl
    clear oa fa hD dl
    obtain ⟨bb, p⟩ := D
    simp only at sb DL
    obtain ⟨u8, hu8⟩ : ∃ W, W = u7.alloc (.cells #[.slice A1a n1a c1a, .slice A2a n2a c2a, .slice A3a n3a c3a] 29) := ⟨_, rfl⟩
    have b : Below u7.heap.size u7 u8 := by rw [hu8]; exact (Below.refl _ _).alloc (Nat.le_refl _) _
    obtain ⟨ga, ea⟩ : ∃ g, g = u7.heap.size := ⟨_, rfl⟩
    have aa : At3 u8 ga A1a n1a c1a A2a n2a c2a A3a n3a c3a := by rw [hu8, ea]; exact ⟨(World.cell?_alloc_at _ _ _ _ rfl).trans rfl, (World.cell?_alloc_at _ _ _ _ rfl).trans rfl, (World.cell?_alloc_at _ _ _ _ rfl).trans rfl⟩
    replace Xx := hid (Xx.out.lift b)
    replace Gx := hid (Gx.out.lift b)
    replace Xy := hid (Xy.out.lift b)
    replace Gy := hid (Gy.out.lift b)
    replace Xm := hid (Xm.out.lift b)
    replace Gm := hid (Gm.out.lift b)
    replace Xa := hid (Xa.out.lift b)
    replace E := E.trans (b.mono E.size)
    have HWu8 := hid hu8
    have HEa := hid ea
    have Ga := hid aa
    clear b hu8 ea aa
    go_wp2_with fail
    rw [← HWu8.out]
    rw [← HEa.out]
    clear HWu8 HEa
    have cc := (XPost.parts (implDropStation_any ⟨A1a, n1a, c1a, A2a, n2a, c2a, A3a, n3a, c3a⟩ a d u8 u8.heap.size (Nat.le_refl _) (sa.out.num Xa.out) Xa.out (hid sa.out.big) (by omega)))
    (try simp only [SV.v] at cc)
    refine cc.mono ?_
    rintro r u9 ⟨A1b, n1b, c1b, A2b, n2b, c2b, A3b, n3b, c3b, rfl, ob, b⟩
    clear cc
    replace Xx := hid (Xx.out.lift b)
    replace Gx := hid (Gx.out.lift b)
    replace Xy := hid (Xy.out.lift b)
    replace Gy := hid (Gy.out.lift b)
    replace Xm := hid (Xm.out.lift b)
    replace Gm := hid (Gm.out.lift b)
    replace Xa := hid (Xa.out.lift b)
    replace Ga := hid (Ga.out.lift b)
    replace E := E.trans (b.mono E.size)
    rw [← HD.out]
    rw [← HD.out] at ob
    simp only at ob
    have Xb := hid ob.sl
    clear ob
    clear b
    have ga0 := Ga.out.c0
    have ga1 := Ga.out.c1
    have ga2 := Ga.out.c2
    have gal := Ga.out.lt
    obtain ⟨u10, hu10⟩ : ∃ W, W = u9.alloc (.cells #[.slice A1b n1b c1b, .slice A2b n2b c2b, .slice A3b n3b c3b] 29) := ⟨_, rfl⟩
    have b : Below u9.heap.size u9 u10 := by rw [hu10]; exact (Below.refl _ _).alloc (Nat.le_refl _) _
    obtain ⟨gb, eb⟩ : ∃ g, g = u9.heap.size := ⟨_, rfl⟩
    have ab : At3 u10 gb A1b n1b c1b A2b n2b c2b A3b n3b c3b := by rw [hu10, eb]; exact ⟨(World.cell?_alloc_at _ _ _ _ rfl).trans rfl, (World.cell?_alloc_at _ _ _ _ rfl).trans rfl, (World.cell?_alloc_at _ _ _ _ rfl).trans rfl⟩
    replace Xx := hid (Xx.out.lift b)
    replace Gx := hid (Gx.out.lift b)
    replace Xy := hid (Xy.out.lift b)
    replace Gy := hid (Gy.out.lift b)
    replace Xm := hid (Xm.out.lift b)
    replace Gm := hid (Gm.out.lift b)
    replace Xa := hid (Xa.out.lift b)
    replace Ga := hid (Ga.out.lift b)
    replace Xb := hid (Xb.out.lift b)
    replace E := E.trans (b.mono E.size)
    have HWu10 := hid hu10
    have HEb := hid eb
    have Gb := hid ab
    clear b hu10 eb ab
    go_wp2_with fail
    rw [← HWu10.out]
    rw [← HEb.out]
    clear HWu10 HEb
    clear ga0 ga1 ga2 gal
    have cc := (XPost.parts (specDropStation_any ⟨A1a, n1a, c1a, A2a, n2a, c2a, A3a, n3a, c3a⟩ a d u10 u10.heap.size (Nat.le_refl _) (sa.out.num Xa.out) Xa.out (hid sa.out.big) (by omega)))
    (try simp only [SV.v] at cc)
    refine cc.mono ?_
    rintro r u11 ⟨A1l, n1l, c1l, A2l, n2l, c2l, A3l, n3l, c3l, rfl, ol, b⟩
    clear cc
    replace Xx := hid (Xx.out.lift b)
    replace Gx := hid (Gx.out.lift b)
    replace Xy := hid (Xy.out.lift b)
    replace Gy := hid (Gy.out.lift b)
    replace Xm := hid (Xm.out.lift b)
    replace Gm := hid (Gm.out.lift b)
    replace Xa := hid (Xa.out.lift b)
    replace Ga := hid (Ga.out.lift b)
    replace Xb := hid (Xb.out.lift b)
    replace Gb := hid (Gb.out.lift b)
    replace E := E.trans (b.mono E.size)
    rw [← HD.out]
    rw [← HD.out] at ol
    simp only at ol
    have Xl := hid ol.sl
    clear ol
    clear b
    obtain ⟨u12, hu12⟩ : ∃ W, W = u11.alloc (.cells #[.slice A1l n1l c1l, .slice A2l n2l c2l, .slice A3l n3l c3l] 29) := ⟨_, rfl⟩
    have b : Below u11.heap.size u11 u12 := by rw [hu12]; exact (Below.refl _ _).alloc (Nat.le_refl _) _
    obtain ⟨gl, el⟩ : ∃ g, g = u11.heap.size := ⟨_, rfl⟩
    have al : At3 u12 gl A1l n1l c1l A2l n2l c2l A3l n3l c3l := by rw [hu12, el]; exact ⟨(World.cell?_alloc_at _ _ _ _ rfl).trans rfl, (World.cell?_alloc_at _ _ _ _ rfl).trans rfl, (World.cell?_alloc_at _ _ _ _ rfl).trans rfl⟩
    replace Xx := hid (Xx.out.lift b)
    replace Gx := hid (Gx.out.lift b)
    replace Xy := hid (Xy.out.lift b)
    replace Gy := hid (Gy.out.lift b)
    replace Xm := hid (Xm.out.lift b)
    replace Gm := hid (Gm.out.lift b)
    replace Xa := hid (Xa.out.lift b)
    replace Ga := hid (Ga.out.lift b)
    replace Xb := hid (Xb.out.lift b)
    replace Gb := hid (Gb.out.lift b)
    replace Xl := hid (Xl.out.lift b)
    replace E := E.trans (b.mono E.size)
    have HWu12 := hid hu12
    have HEl := hid el
    have Gl := hid al
    clear b hu12 el al
    go_wp2_with fail
    rw [← HWu12.out]
    rw [← HEl.out]
    clear HWu12 HEl
    have cc := DrawWaysFromName_any (.slice A0 n0 c0) u12 ((HV.out.below E).more E.size)
    (try simp only [SV.v] at cc)
    refine cc.mono ?_
    rintro r u13 ⟨A1c, n1c, c1c, A2c, n2c, c2c, A3c, n3c, c3c, c, f, rfl, oc, fc, hf, b⟩
    clear cc
    replace Xx := hid (Xx.out.lift b)
    replace Gx := hid (Gx.out.lift b)
    replace Xy := hid (Xy.out.lift b)
    replace Gy := hid (Gy.out.lift b)
    replace Xm := hid (Xm.out.lift b)
    replace Gm := hid (Gm.out.lift b)
    replace Xa := hid (Xa.out.lift b)
    replace Ga := hid (Ga.out.lift b)
    replace Xb := hid (Xb.out.lift b)
    replace Gb := hid (Gb.out.lift b)
    replace Xl := hid (Xl.out.lift b)
    replace Gl := hid (Gl.out.lift b)
    replace E := E.trans (b.mono E.size)
    clear b
    have Xc := hid oc.sl
    have sc := hid fc.sm
    clear oc fc
    obtain ⟨u14, hu14⟩ : ∃ W, W = u13.alloc (.cells #[.slice A1c n1c c1c, .slice A2c n2c c2c, .slice A3c n3c c3c] 29) := ⟨_, rfl⟩
    have b : Below u13.heap.size u13 u14 := by rw [hu14]; exact (Below.refl _ _).alloc (Nat.le_refl _) _
    obtain ⟨gc, ec⟩ : ∃ g, g = u13.heap.size := ⟨_, rfl⟩
    have ac : At3 u14 gc A1c n1c c1c A2c n2c c2c A3c n3c c3c := by rw [hu14, ec]; exact ⟨(World.cell?_alloc_at _ _ _ _ rfl).trans rfl, (World.cell?_alloc_at _ _ _ _ rfl).trans rfl, (World.cell?_alloc_at _ _ _ _ rfl).trans rfl⟩
    replace Xx := hid (Xx.out.lift b)
    replace Gx := hid (Gx.out.lift b)
    replace Xy := hid (Xy.out.lift b)
    replace Gy := hid (Gy.out.lift b)
    replace Xm := hid (Xm.out.lift b)
    replace Gm := hid (Gm.out.lift b)
    replace Xa := hid (Xa.out.lift b)
    replace Ga := hid (Ga.out.lift b)
    replace Xb := hid (Xb.out.lift b)
    replace Gb := hid (Gb.out.lift b)
    replace Xl := hid (Xl.out.lift b)
    replace Gl := hid (Gl.out.lift b)
    replace Xc := hid (Xc.out.lift b)
    replace E := E.trans (b.mono E.size)
    have HWu14 := hid hu14
    have HEc := hid ec
    have Gc := hid ac
    clear b hu14 ec ac
    obtain ⟨Fw, hFw⟩ : ∃ F, F = fromF c f := ⟨_, rfl⟩
    have fl : ∀ i ∈ Fw.1, ∃ (j : Nat) (y : Way), i = j ∧ c.wy[j]? = some y ∧ y.fr = f := fun i hi => from_law (by rw [← hFw]; exact hi)
    have FL := hid fl
    clear fl
    have lw : Fw.1.length ≤ 62 := by rw [hFw]; exact fromF_sm sc.out
    have HFw := hid hFw
    clear hFw
    obtain ⟨Fw1, Fw2⟩ := Fw
    simp only at lw
    simp only at FL
    go_wp2_with fail
    rw [← HWu14.out]
    rw [← HEc.out]
    clear HWu14 HEc
    have cc := (implWaysFromName_any ⟨A1c, n1c, c1c, A2c, n2c, c2c, A3c, n3c, c3c⟩ c f u14 u14.heap.size (Nat.le_refl _) (sc.out.num Xc.out) Xc.out (hid sc.out.big) (by omega))
    (try simp only [SV.v] at cc)
    refine cc.mono ?_
    rintro r u15 ⟨Awi, nwi, cwi, rfl, owi, b⟩
    clear cc
    replace Xx := hid (Xx.out.lift b)
    replace Gx := hid (Gx.out.lift b)
    replace Xy := hid (Xy.out.lift b)
    replace Gy := hid (Gy.out.lift b)
    replace Xm := hid (Xm.out.lift b)
    replace Gm := hid (Gm.out.lift b)
    replace Xa := hid (Xa.out.lift b)
    replace Ga := hid (Ga.out.lift b)
    replace Xb := hid (Xb.out.lift b)
    replace Gb := hid (Gb.out.lift b)
    replace Xl := hid (Xl.out.lift b)
    replace Gl := hid (Gl.out.lift b)
    replace Xc := hid (Xc.out.lift b)
    replace Gc := hid (Gc.out.lift b)
    replace E := E.trans (b.mono E.size)
    rw [← HFw.out]
    rw [← HFw.out] at owi
    simp only at owi
    obtain rfl := own_len encI_len (by omega) owi
    have Lwi := hid (own_sl encI_len (by omega) owi)
    clear owi
    clear b
    have gc0 := Gc.out.c0
    have gc1 := Gc.out.c1
    have gc2 := Gc.out.c2
    have gcl := Gc.out.lt
    go_wp2_with fail
    clear gc0 gc1 gc2 gcl
    have cc := (specWaysFromName_any ⟨A1c, n1c, c1c, A2c, n2c, c2c, A3c, n3c, c3c⟩ c f u15 u15.heap.size (Nat.le_refl _) (sc.out.num Xc.out) Xc.out (hid sc.out.big) (by omega))
    (try simp only [SV.v] at cc)
    refine cc.mono ?_
    rintro r u16 ⟨Aws, nws, cws, rfl, ows, b⟩
    clear cc
    replace Xx := hid (Xx.out.lift b)
    replace Gx := hid (Gx.out.lift b)
    replace Xy := hid (Xy.out.lift b)
    replace Gy := hid (Gy.out.lift b)
    replace Xm := hid (Xm.out.lift b)
    replace Gm := hid (Gm.out.lift b)
    replace Xa := hid (Xa.out.lift b)
    replace Ga := hid (Ga.out.lift b)
    replace Xb := hid (Xb.out.lift b)
    replace Gb := hid (Gb.out.lift b)
    replace Xl := hid (Xl.out.lift b)
    replace Gl := hid (Gl.out.lift b)
    replace Xc := hid (Xc.out.lift b)
    replace Gc := hid (Gc.out.lift b)
    replace Lwi := hid (SlI.lift Lwi.out b)
    replace E := E.trans (b.mono E.size)
    rw [← HFw.out]
    rw [← HFw.out] at ows
    simp only at ows
    obtain rfl := own_len encI_len (by omega) ows
    have Lws := hid (own_sl encI_len (by omega) ows)
    clear ows
    clear b
    obtain ⟨Fo, hFo⟩ : ∃ F, F = lonelyF c := ⟨_, rfl⟩
    have lo : Fo.1.length ≤ 62 := by rw [hFo]; exact byF_sm sc.out
    have HFo := hid hFo
    clear hFo
    obtain ⟨Fo1, Fo2⟩ := Fo
    simp only at lo
    have gc0 := Gc.out.c0
    have gc1 := Gc.out.c1
    have gc2 := Gc.out.c2
    have gcl := Gc.out.lt
    go_wp2_with fail
    clear gc0 gc1 gc2 gcl
    have cc := (implLonelyStations_any ⟨A1c, n1c, c1c, A2c, n2c, c2c, A3c, n3c, c3c⟩ c u16 u16.heap.size (Nat.le_refl _) (sc.out.num Xc.out) Xc.out (hid sc.out.big))
    (try simp only [SV.v] at cc)
    refine cc.mono ?_
    rintro r u17 ⟨Aoi, noi, coi, rfl, ooi, b⟩
    clear cc
    replace Xx := hid (Xx.out.lift b)
    replace Gx := hid (Gx.out.lift b)
    replace Xy := hid (Xy.out.lift b)
    replace Gy := hid (Gy.out.lift b)
    replace Xm := hid (Xm.out.lift b)
    replace Gm := hid (Gm.out.lift b)
    replace Xa := hid (Xa.out.lift b)
    replace Ga := hid (Ga.out.lift b)
    replace Xb := hid (Xb.out.lift b)
    replace Gb := hid (Gb.out.lift b)
    replace Xl := hid (Xl.out.lift b)
    replace Gl := hid (Gl.out.lift b)
    replace Xc := hid (Xc.out.lift b)
    replace Gc := hid (Gc.out.lift b)
    replace Lwi := hid (SlI.lift Lwi.out b)
    replace Lws := hid (SlI.lift Lws.out b)
    replace E := E.trans (b.mono E.size)
    rw [← HFo.out]
    rw [← HFo.out] at ooi
    simp only at ooi
    obtain rfl := own_len encS_len (by omega) ooi
    have Loi := hid (own_sl encS_len (by omega) ooi)
    clear ooi
    clear b
    have gc0 := Gc.out.c0
    have gc1 := Gc.out.c1
    have gc2 := Gc.out.c2
    have gcl := Gc.out.lt
    go_wp2_with fail
    clear gc0 gc1 gc2 gcl
    have cc := (specLonelyStations_any ⟨A1c, n1c, c1c, A2c, n2c, c2c, A3c, n3c, c3c⟩ c u17 u17.heap.size (Nat.le_refl _) (sc.out.num Xc.out) Xc.out (hid sc.out.big))
    (try simp only [SV.v] at cc)
    refine cc.mono ?_
    rintro r u18 ⟨Aos, nos, cos, rfl, oos, b⟩
    clear cc
    replace Xx := hid (Xx.out.lift b)
    replace Gx := hid (Gx.out.lift b)
    replace Xy := hid (Xy.out.lift b)
    replace Gy := hid (Gy.out.lift b)
    replace Xm := hid (Xm.out.lift b)
    replace Gm := hid (Gm.out.lift b)
    replace Xa := hid (Xa.out.lift b)
    replace Ga := hid (Ga.out.lift b)
    replace Xb := hid (Xb.out.lift b)
    replace Gb := hid (Gb.out.lift b)
    replace Xl := hid (Xl.out.lift b)
    replace Gl := hid (Gl.out.lift b)
    replace Xc := hid (Xc.out.lift b)
    replace Gc := hid (Gc.out.lift b)
    replace Lwi := hid (SlI.lift Lwi.out b)
    replace Lws := hid (SlI.lift Lws.out b)
    replace Loi := hid (SlT.lift Loi.out b)
    replace E := E.trans (b.mono E.size)
    rw [← HFo.out]
    rw [← HFo.out] at oos
    simp only at oos
    obtain rfl := own_len encS_len (by omega) oos
    have Los := hid (own_sl encS_len (by omega) oos)
    clear oos
    clear b
    obtain ⟨Fd, hFd⟩ : ∃ F, F = deadF c := ⟨_, rfl⟩
    have ld : Fd.1.length ≤ 62 := by rw [hFd]; exact byF_sm sc.out
    have HFd := hid hFd
    clear hFd
    obtain ⟨Fd1, Fd2⟩ := Fd
    simp only at ld
    have gc0 := Gc.out.c0
    have gc1 := Gc.out.c1
    have gc2 := Gc.out.c2
    have gcl := Gc.out.lt
    go_wp2_with fail
    clear gc0 gc1 gc2 gcl
    have cc := (implDeadEnds_any ⟨A1c, n1c, c1c, A2c, n2c, c2c, A3c, n3c, c3c⟩ c u18 u18.heap.size (Nat.le_refl _) (sc.out.num Xc.out) Xc.out (hid sc.out.big))
    (try simp only [SV.v] at cc)
    refine cc.mono ?_
    rintro r u19 ⟨Adi, ndi, cdi, rfl, odi, b⟩
    clear cc
    replace Xx := hid (Xx.out.lift b)
    replace Gx := hid (Gx.out.lift b)
    replace Xy := hid (Xy.out.lift b)
    replace Gy := hid (Gy.out.lift b)
    replace Xm := hid (Xm.out.lift b)
    replace Gm := hid (Gm.out.lift b)
    replace Xa := hid (Xa.out.lift b)
    replace Ga := hid (Ga.out.lift b)
    replace Xb := hid (Xb.out.lift b)
    replace Gb := hid (Gb.out.lift b)
    replace Xl := hid (Xl.out.lift b)
    replace Gl := hid (Gl.out.lift b)
    replace Xc := hid (Xc.out.lift b)
    replace Gc := hid (Gc.out.lift b)
    replace Lwi := hid (SlI.lift Lwi.out b)
    replace Lws := hid (SlI.lift Lws.out b)
    replace Loi := hid (SlT.lift Loi.out b)
    replace Los := hid (SlT.lift Los.out b)
    replace E := E.trans (b.mono E.size)
    rw [← HFd.out]
    rw [← HFd.out] at odi
    simp only at odi
    obtain rfl := own_len encS_len (by omega) odi
    have Ldi := hid (own_sl encS_len (by omega) odi)
    clear odi
    clear b
    have gc0 := Gc.out.c0
    have gc1 := Gc.out.c1
    have gc2 := Gc.out.c2
    have gcl := Gc.out.lt
    go_wp2_with fail
    clear gc0 gc1 gc2 gcl
    have cc := (specDeadEnds_any ⟨A1c, n1c, c1c, A2c, n2c, c2c, A3c, n3c, c3c⟩ c u19 u19.heap.size (Nat.le_refl _) (sc.out.num Xc.out) Xc.out (hid sc.out.big))
    (try simp only [SV.v] at cc)
    refine cc.mono ?_
    rintro r u20 ⟨Ads, nds, cds, rfl, ods, b⟩
    clear cc
    replace Xx := hid (Xx.out.lift b)
    replace Gx := hid (Gx.out.lift b)
    replace Xy := hid (Xy.out.lift b)
    replace Gy := hid (Gy.out.lift b)
    replace Xm := hid (Xm.out.lift b)
    replace Gm := hid (Gm.out.lift b)
    replace Xa := hid (Xa.out.lift b)
    replace Ga := hid (Ga.out.lift b)
    replace Xb := hid (Xb.out.lift b)
    replace Gb := hid (Gb.out.lift b)
    replace Xl := hid (Xl.out.lift b)
    replace Gl := hid (Gl.out.lift b)
    replace Xc := hid (Xc.out.lift b)
    replace Gc := hid (Gc.out.lift b)
    replace Lwi := hid (SlI.lift Lwi.out b)
    replace Lws := hid (SlI.lift Lws.out b)
    replace Loi := hid (SlT.lift Loi.out b)
    replace Los := hid (SlT.lift Los.out b)
    replace Ldi := hid (SlT.lift Ldi.out b)
    replace E := E.trans (b.mono E.size)
    rw [← HFd.out]
    rw [← HFd.out] at ods
    simp only at ods
    obtain rfl := own_len encS_len (by omega) ods
    have Lds := hid (own_sl encS_len (by omega) ods)
    clear ods
    clear b
    obtain ⟨Ft, hFt⟩ : ∃ F, F = metF c := ⟨_, rfl⟩
    have HFt := hid hFt
    clear hFt
    obtain ⟨Ft1, Ft2⟩ := Ft
    have gc0 := Gc.out.c0
    have gc1 := Gc.out.c1
    have gc2 := Gc.out.c2
    have gcl := Gc.out.lt
    go_wp2_with fail
    clear gc0 gc1 gc2 gcl
    have cc := (implMetresOf_any ⟨A1c, n1c, c1c, A2c, n2c, c2c, A3c, n3c, c3c⟩ c u20 u20.heap.size (Nat.le_refl _) (sc.out.num Xc.out) Xc.out (hid sc.out.big))
    (try simp only [SV.v] at cc)
    refine cc.mono ?_
    rintro r u21 ⟨rfl, b⟩
    clear cc
    replace Xx := hid (Xx.out.lift b)
    replace Gx := hid (Gx.out.lift b)
    replace Xy := hid (Xy.out.lift b)
    replace Gy := hid (Gy.out.lift b)
    replace Xm := hid (Xm.out.lift b)
    replace Gm := hid (Gm.out.lift b)
    replace Xa := hid (Xa.out.lift b)
    replace Ga := hid (Ga.out.lift b)
    replace Xb := hid (Xb.out.lift b)
    replace Gb := hid (Gb.out.lift b)
    replace Xl := hid (Xl.out.lift b)
    replace Gl := hid (Gl.out.lift b)
    replace Xc := hid (Xc.out.lift b)
    replace Gc := hid (Gc.out.lift b)
    replace Lwi := hid (SlI.lift Lwi.out b)
    replace Lws := hid (SlI.lift Lws.out b)
    replace Loi := hid (SlT.lift Loi.out b)
    replace Los := hid (SlT.lift Los.out b)
    replace Ldi := hid (SlT.lift Ldi.out b)
    replace Lds := hid (SlT.lift Lds.out b)
    replace E := E.trans (b.mono E.size)
    rw [← HFt.out]
    clear b
    have gc0 := Gc.out.c0
    have gc1 := Gc.out.c1
    have gc2 := Gc.out.c2
    have gcl := Gc.out.lt
    go_wp2_with fail
    clear gc0 gc1 gc2 gcl
    have cc := (specMetresOf_any ⟨A1c, n1c, c1c, A2c, n2c, c2c, A3c, n3c, c3c⟩ c u21 u21.heap.size (Nat.le_refl _) (sc.out.num Xc.out) Xc.out (hid sc.out.big))
    (try simp only [SV.v] at cc)
    refine cc.mono ?_
    rintro r u22 ⟨rfl, b⟩
    clear cc
    replace Xx := hid (Xx.out.lift b)
    replace Gx := hid (Gx.out.lift b)
    replace Xy := hid (Xy.out.lift b)
    replace Gy := hid (Gy.out.lift b)
    replace Xm := hid (Xm.out.lift b)
    replace Gm := hid (Gm.out.lift b)
    replace Xa := hid (Xa.out.lift b)
    replace Ga := hid (Ga.out.lift b)
    replace Xb := hid (Xb.out.lift b)
    replace Gb := hid (Gb.out.lift b)
    replace Xl := hid (Xl.out.lift b)
    replace Gl := hid (Gl.out.lift b)
    replace Xc := hid (Xc.out.lift b)
    replace Gc := hid (Gc.out.lift b)
    replace Lwi := hid (SlI.lift Lwi.out b)
    replace Lws := hid (SlI.lift Lws.out b)
    replace Loi := hid (SlT.lift Loi.out b)
    replace Los := hid (SlT.lift Los.out b)
    replace Ldi := hid (SlT.lift Ldi.out b)
    replace Lds := hid (SlT.lift Lds.out b)
    replace E := E.trans (b.mono E.size)
    rw [← HFt.out]
    clear b
    obtain ⟨Fs, hFs⟩ : ∃ F, F = oneF c := ⟨_, rfl⟩
    have ls : Fs.1.length ≤ 62 := by rw [hFs]; exact oneF_sm sc.out
    have HFs := hid hFs
    clear hFs
    obtain ⟨Fs1, Fs2⟩ := Fs
    simp only at ls
    have gc0 := Gc.out.c0
    have gc1 := Gc.out.c1
    have gc2 := Gc.out.c2
    have gcl := Gc.out.lt
    go_wp2_with fail
    clear gc0 gc1 gc2 gcl
    have cc := (implOneWays_any ⟨A1c, n1c, c1c, A2c, n2c, c2c, A3c, n3c, c3c⟩ c u22 u22.heap.size (Nat.le_refl _) (sc.out.num Xc.out) Xc.out (hid sc.out.big))
    (try simp only [SV.v] at cc)
    refine cc.mono ?_
    rintro r u23 ⟨Asi, nsi, csi, rfl, osi, b⟩
    clear cc
    replace Xx := hid (Xx.out.lift b)
    replace Gx := hid (Gx.out.lift b)
    replace Xy := hid (Xy.out.lift b)
    replace Gy := hid (Gy.out.lift b)
    replace Xm := hid (Xm.out.lift b)
    replace Gm := hid (Gm.out.lift b)
    replace Xa := hid (Xa.out.lift b)
    replace Ga := hid (Ga.out.lift b)
    replace Xb := hid (Xb.out.lift b)
    replace Gb := hid (Gb.out.lift b)
    replace Xl := hid (Xl.out.lift b)
    replace Gl := hid (Gl.out.lift b)
    replace Xc := hid (Xc.out.lift b)
    replace Gc := hid (Gc.out.lift b)
    replace Lwi := hid (SlI.lift Lwi.out b)
    replace Lws := hid (SlI.lift Lws.out b)
    replace Loi := hid (SlT.lift Loi.out b)
    replace Los := hid (SlT.lift Los.out b)
    replace Ldi := hid (SlT.lift Ldi.out b)
    replace Lds := hid (SlT.lift Lds.out b)
    replace E := E.trans (b.mono E.size)
    rw [← HFs.out]
    rw [← HFs.out] at osi
    simp only at osi
    obtain rfl := own_len encI_len (by omega) osi
    have Lsi := hid (own_sl encI_len (by omega) osi)
    clear osi
    clear b
    have gc0 := Gc.out.c0
    have gc1 := Gc.out.c1
    have gc2 := Gc.out.c2
    have gcl := Gc.out.lt
    go_wp2_with fail
    clear gc0 gc1 gc2 gcl
    have cc := (specOneWays_any ⟨A1c, n1c, c1c, A2c, n2c, c2c, A3c, n3c, c3c⟩ c u23 u23.heap.size (Nat.le_refl _) (sc.out.num Xc.out) Xc.out (hid sc.out.big))
    (try simp only [SV.v] at cc)
    refine cc.mono ?_
    rintro r u24 ⟨Ass, nss, css, rfl, oss, b⟩
    clear cc
    replace Xx := hid (Xx.out.lift b)
    replace Gx := hid (Gx.out.lift b)
    replace Xy := hid (Xy.out.lift b)
    replace Gy := hid (Gy.out.lift b)
    replace Xm := hid (Xm.out.lift b)
    replace Gm := hid (Gm.out.lift b)
    replace Xa := hid (Xa.out.lift b)
    replace Ga := hid (Ga.out.lift b)
    replace Xb := hid (Xb.out.lift b)
    replace Gb := hid (Gb.out.lift b)
    replace Xl := hid (Xl.out.lift b)
    replace Gl := hid (Gl.out.lift b)
    replace Xc := hid (Xc.out.lift b)
    replace Gc := hid (Gc.out.lift b)
    replace Lwi := hid (SlI.lift Lwi.out b)
    replace Lws := hid (SlI.lift Lws.out b)
    replace Loi := hid (SlT.lift Loi.out b)
    replace Los := hid (SlT.lift Los.out b)
    replace Ldi := hid (SlT.lift Ldi.out b)
    replace Lds := hid (SlT.lift Lds.out b)
    replace Lsi := hid (SlI.lift Lsi.out b)
    replace E := E.trans (b.mono E.size)
    rw [← HFs.out]
    rw [← HFs.out] at oss
    simp only at oss
    obtain rfl := own_len encI_len (by omega) oss
    have Lss := hid (own_sl encI_len (by omega) oss)
    clear oss
    clear b
    have yy : sameX y y = true := by simp [sameX]
    have bbb : sameX bb bb = true := by simp [sameX]
    have YY := hid yy
    have BBB := hid bbb
    clear yy bbb
    have gy0 := Gy.out.c0
    have gy1 := Gy.out.c1
    have gy2 := Gy.out.c2
    have gyl := Gy.out.lt
    have gm0 := Gm.out.c0
    have gm1 := Gm.out.c1
    have gm2 := Gm.out.c2
    have gml := Gm.out.lt
    go_wp2_with fail
    clear gy0 gy1 gy2 gyl gm0 gm1 gm2 gml
    have c1 := specSameScheme_any ⟨A1y, n1y, c1y, A2y, n2y, c2y, A3y, n3y, c3y⟩ ⟨A1m, n1m, c1m, A2m, n2m, c2m, A3m, n3m, c3m⟩ y y u24 u24.heap.size (Nat.le_refl _) (sy.out.num Xy.out) (sy.out.num Xm.out) Xy.out Xm.out
    rw [YY.out] at c1
    have cc := c1
    clear c1
    (try simp only [SV.v] at cc)
    refine cc.mono ?_
    rintro r u25 ⟨rfl, b⟩
    clear cc
    replace Xx := hid (Xx.out.lift b)
    replace Gx := hid (Gx.out.lift b)
    replace Xy := hid (Xy.out.lift b)
    replace Gy := hid (Gy.out.lift b)
    replace Xm := hid (Xm.out.lift b)
    replace Gm := hid (Gm.out.lift b)
    replace Xa := hid (Xa.out.lift b)
    replace Ga := hid (Ga.out.lift b)
    replace Xb := hid (Xb.out.lift b)
    replace Gb := hid (Gb.out.lift b)
    replace Xl := hid (Xl.out.lift b)
    replace Gl := hid (Gl.out.lift b)
    replace Xc := hid (Xc.out.lift b)
    replace Gc := hid (Gc.out.lift b)
    replace Lwi := hid (SlI.lift Lwi.out b)
    replace Lws := hid (SlI.lift Lws.out b)
    replace Loi := hid (SlT.lift Loi.out b)
    replace Los := hid (SlT.lift Los.out b)
    replace Ldi := hid (SlT.lift Ldi.out b)
    replace Lds := hid (SlT.lift Lds.out b)
    replace Lsi := hid (SlI.lift Lsi.out b)
    replace Lss := hid (SlI.lift Lss.out b)
    replace E := E.trans (b.mono E.size)
    clear b
    have gb0 := Gb.out.c0
    have gb1 := Gb.out.c1
    have gb2 := Gb.out.c2
    have gbl := Gb.out.lt
    have gl0 := Gl.out.c0
    have gl1 := Gl.out.c1
    have gl2 := Gl.out.c2
    have gll := Gl.out.lt
    go_wp2_with fail
    clear gb0 gb1 gb2 gbl gl0 gl1 gl2 gll
    have c1 := specSameScheme_any ⟨A1b, n1b, c1b, A2b, n2b, c2b, A3b, n3b, c3b⟩ ⟨A1l, n1l, c1l, A2l, n2l, c2l, A3l, n3l, c3l⟩ bb bb u25 u25.heap.size (Nat.le_refl _) (sb.out.num Xb.out) (sb.out.num Xl.out) Xb.out Xl.out
    rw [BBB.out] at c1
    have cc := c1
    clear c1
    (try simp only [SV.v] at cc)
    refine cc.mono ?_
    rintro r u26 ⟨rfl, b⟩
    clear cc
    replace Xx := hid (Xx.out.lift b)
    replace Gx := hid (Gx.out.lift b)
    replace Xy := hid (Xy.out.lift b)
    replace Gy := hid (Gy.out.lift b)
    replace Xm := hid (Xm.out.lift b)
    replace Gm := hid (Gm.out.lift b)
    replace Xa := hid (Xa.out.lift b)
    replace Ga := hid (Ga.out.lift b)
    replace Xb := hid (Xb.out.lift b)
    replace Gb := hid (Gb.out.lift b)
    replace Xl := hid (Xl.out.lift b)
    replace Gl := hid (Gl.out.lift b)
    replace Xc := hid (Xc.out.lift b)
    replace Gc := hid (Gc.out.lift b)
    replace Lwi := hid (SlI.lift Lwi.out b)
    replace Lws := hid (SlI.lift Lws.out b)
    replace Loi := hid (SlT.lift Loi.out b)
    replace Los := hid (SlT.lift Los.out b)
    replace Ldi := hid (SlT.lift Ldi.out b)
    replace Lds := hid (SlT.lift Lds.out b)
    replace Lsi := hid (SlI.lift Lsi.out b)
    replace Lss := hid (SlI.lift Lss.out b)
    replace E := E.trans (b.mono E.size)
    clear b
    go_wp2_with fail
    have cc := f6ints_yes Awi Fw1.length cwi Aws Fw1.length cws Fw1 u26 u26.heap.size (by omega) Lwi.out Lws.out
    (try simp only [SV.v] at cc)
    refine cc.mono ?_
    rintro r u27 ⟨rfl, b⟩
    clear cc
    replace Xx := hid (Xx.out.lift b)
    replace Gx := hid (Gx.out.lift b)
    replace Xy := hid (Xy.out.lift b)
    replace Gy := hid (Gy.out.lift b)
    replace Xm := hid (Xm.out.lift b)
    replace Gm := hid (Gm.out.lift b)
    replace Xa := hid (Xa.out.lift b)
    replace Ga := hid (Ga.out.lift b)
    replace Xb := hid (Xb.out.lift b)
    replace Gb := hid (Gb.out.lift b)
    replace Xl := hid (Xl.out.lift b)
    replace Gl := hid (Gl.out.lift b)
    replace Xc := hid (Xc.out.lift b)
    replace Gc := hid (Gc.out.lift b)
    replace Lwi := hid (SlI.lift Lwi.out b)
    replace Lws := hid (SlI.lift Lws.out b)
    replace Loi := hid (SlT.lift Loi.out b)
    replace Los := hid (SlT.lift Los.out b)
    replace Ldi := hid (SlT.lift Ldi.out b)
    replace Lds := hid (SlT.lift Lds.out b)
    replace Lsi := hid (SlI.lift Lsi.out b)
    replace Lss := hid (SlI.lift Lss.out b)
    replace E := E.trans (b.mono E.size)
    clear b
    go_wp2_with fail
    have cc := f6texts_yes Aoi Fo1.length coi Aos Fo1.length cos Fo1 u27 u27.heap.size (by omega) Loi.out Los.out
    (try simp only [SV.v] at cc)
    refine cc.mono ?_
    rintro r u28 ⟨rfl, b⟩
    clear cc
    replace Xx := hid (Xx.out.lift b)
    replace Gx := hid (Gx.out.lift b)
    replace Xy := hid (Xy.out.lift b)
    replace Gy := hid (Gy.out.lift b)
    replace Xm := hid (Xm.out.lift b)
    replace Gm := hid (Gm.out.lift b)
    replace Xa := hid (Xa.out.lift b)
    replace Ga := hid (Ga.out.lift b)
    replace Xb := hid (Xb.out.lift b)
    replace Gb := hid (Gb.out.lift b)
    replace Xl := hid (Xl.out.lift b)
    replace Gl := hid (Gl.out.lift b)
    replace Xc := hid (Xc.out.lift b)
    replace Gc := hid (Gc.out.lift b)
    replace Lwi := hid (SlI.lift Lwi.out b)
    replace Lws := hid (SlI.lift Lws.out b)
    replace Loi := hid (SlT.lift Loi.out b)
    replace Los := hid (SlT.lift Los.out b)
    replace Ldi := hid (SlT.lift Ldi.out b)
    replace Lds := hid (SlT.lift Lds.out b)
    replace Lsi := hid (SlI.lift Lsi.out b)
    replace Lss := hid (SlI.lift Lss.out b)
    replace E := E.trans (b.mono E.size)
    clear b
    go_wp2_with fail
    have cc := f6texts_yes Adi Fd1.length cdi Ads Fd1.length cds Fd1 u28 u28.heap.size (by omega) Ldi.out Lds.out
    (try simp only [SV.v] at cc)
    refine cc.mono ?_
    rintro r u29 ⟨rfl, b⟩
    clear cc
    replace Xx := hid (Xx.out.lift b)
    replace Gx := hid (Gx.out.lift b)
    replace Xy := hid (Xy.out.lift b)
    replace Gy := hid (Gy.out.lift b)
    replace Xm := hid (Xm.out.lift b)
    replace Gm := hid (Gm.out.lift b)
    replace Xa := hid (Xa.out.lift b)
    replace Ga := hid (Ga.out.lift b)
    replace Xb := hid (Xb.out.lift b)
    replace Gb := hid (Gb.out.lift b)
    replace Xl := hid (Xl.out.lift b)
    replace Gl := hid (Gl.out.lift b)
    replace Xc := hid (Xc.out.lift b)
    replace Gc := hid (Gc.out.lift b)
    replace Lwi := hid (SlI.lift Lwi.out b)
    replace Lws := hid (SlI.lift Lws.out b)
    replace Loi := hid (SlT.lift Loi.out b)
    replace Los := hid (SlT.lift Los.out b)
    replace Ldi := hid (SlT.lift Ldi.out b)
    replace Lds := hid (SlT.lift Lds.out b)
    replace Lsi := hid (SlI.lift Lsi.out b)
    replace Lss := hid (SlI.lift Lss.out b)
    replace E := E.trans (b.mono E.size)
    clear b
    go_wp2_with fail
    have cc := f6ints_yes Asi Fs1.length csi Ass Fs1.length css Fs1 u29 u29.heap.size (by omega) Lsi.out Lss.out
    (try simp only [SV.v] at cc)
    refine cc.mono ?_
    rintro r u30 ⟨rfl, b⟩
    clear cc
    replace Xx := hid (Xx.out.lift b)
    replace Gx := hid (Gx.out.lift b)
    replace Xy := hid (Xy.out.lift b)
    replace Gy := hid (Gy.out.lift b)
    replace Xm := hid (Xm.out.lift b)
    replace Gm := hid (Gm.out.lift b)
    replace Xa := hid (Xa.out.lift b)
    replace Ga := hid (Ga.out.lift b)
    replace Xb := hid (Xb.out.lift b)
    replace Gb := hid (Gb.out.lift b)
    replace Xl := hid (Xl.out.lift b)
    replace Gl := hid (Gl.out.lift b)
    replace Xc := hid (Xc.out.lift b)
    replace Gc := hid (Gc.out.lift b)
    replace Lwi := hid (SlI.lift Lwi.out b)
    replace Lws := hid (SlI.lift Lws.out b)
    replace Loi := hid (SlT.lift Loi.out b)
    replace Los := hid (SlT.lift Los.out b)
    replace Ldi := hid (SlT.lift Ldi.out b)
    replace Lds := hid (SlT.lift Lds.out b)
    replace Lsi := hid (SlI.lift Lsi.out b)
    replace Lss := hid (SlI.lift Lss.out b)
    replace E := E.trans (b.mono E.size)
    clear b
    have gc0 := Gc.out.c0
    have gc1 := Gc.out.c1
    have gc2 := Gc.out.c2
    have gcl := Gc.out.lt
    have NC := hid (sc.out.num Xc.out)
    obtain ⟨ln, hln⟩ : ∃ ln, ln = Fw1.length := ⟨_, rfl⟩
    rw [← hln]
    rw [← hln] at Lws Lwi lw
    have Eb := hid E
    clear gc0 gc1 gc2 gcl
    go_wp2_with fail
    go_loopw [38] (fun i wl => ∃ k : Nat, k ≤ ln ∧ i = .int .i64 k ∧ Below u30.heap.size u30 wl) (fun i _ => ln - (intOf i).toNat)
    case atStart => exact ⟨0, Nat.zero_le _, rfl, Below.refl _ _⟩
    case round =>
      obtain ⟨k, hk, rfl, hb⟩ := hrel
      have gc := Gc.out.lift hb
      by_cases hkl : k < ln
      · obtain ⟨i, ab, ao, Hi, rfl, hab, ci⟩ := (SlI.lift Lws.out hb).int hkl
        obtain ⟨j, yw, rfl, hj, hjf⟩ := FL.out i (List.mem_of_getElem? Hi.out)
        have hjl : j < n3c := by
          have := Xc.out.wy.len
          have := (List.getElem?_eq_some_iff.1 hj).1
          simp only at *
          omega
        obtain ⟨f', t', m', wb, wo, Hy, rfl, hwb, l0, l1, l2⟩ := ((Xc.out.lift hb).wy).atWay hjl
        obtain rfl : yw = ⟨f', t', m'⟩ := by have := hj.symm.trans Hy.out; simpa using this
        simp only at hjf
        subst hjf
        have q1 : (f'.toList == f'.toList) = true := bs_in rfl
        have gc2 := gc.c2
        have gcl := gc.lt
        have hi0 : (0 : Int) ≤ (j : Int) := by omega
        have hi1 : (j : Int) < (n3c : Int) := by omega
        have hk0 : (0 : Int) ≤ (k : Int) := by omega
        have hk1 : (k : Int) < (ln : Int) := by omega
        clear hj gc
        go_wp2_with fail
        go_quiet (fail)
        go_wp2
        have hb2 := below_drewN hb nq
        go_roundw
        all_goals first | exact ⟨k + 1, by omega, by go_num, hb2⟩ | exact ⟨⟨k + 1, by omega, by go_num, hb2⟩, by simp [intOf]; omega⟩ | (simp [intOf]; omega)
      · clear FL
        replace E := E.trans (hb.mono E.size)
        replace Xx := hid (Xx.out.lift hb)
        replace Gx := hid (Gx.out.lift hb)
        replace Xy := hid (Xy.out.lift hb)
        replace Gy := hid (Gy.out.lift hb)
        replace Xm := hid (Xm.out.lift hb)
        replace Gm := hid (Gm.out.lift hb)
        replace Xa := hid (Xa.out.lift hb)
        replace Ga := hid (Ga.out.lift hb)
        replace Xb := hid (Xb.out.lift hb)
        replace Gb := hid (Gb.out.lift hb)
        replace Xl := hid (Xl.out.lift hb)
        replace Gl := hid (Gl.out.lift hb)
        replace Xc := hid (Xc.out.lift hb)
        replace Gc := hid (Gc.out.lift hb)
        replace Lwi := hid (SlI.lift Lwi.out hb)
        replace Lws := hid (SlI.lift Lws.out hb)
        replace Loi := hid (SlT.lift Loi.out hb)
        replace Los := hid (SlT.lift Los.out hb)
        replace Ldi := hid (SlT.lift Ldi.out hb)
        replace Lds := hid (SlT.lift Lds.out hb)
        replace Lsi := hid (SlI.lift Lsi.out hb)
        replace Lss := hid (SlI.lift Lss.out hb)
        clear hb gc
        by_cases hp : p = 0
        · subst hp
          obtain ⟨d1, d2, d3, d4, d5⟩ := DL.out rfl
          have D1 := hid d1
          have D2 := hid d2
          have D4 := hid d4
          have D5 := hid d5
          have nl : n1l = bb.st.length := Xl.out.st.len.symm
          have na : n1a = a.st.length := Xa.out.st.len.symm
          have j1 : (((n1l : Int) + 1) == (n1a : Int)) = true := by rw [beq_iff_eq]; omega
          have j2 : (((n1l : Int) + 1) != (n1a : Int)) = false := by rw [bne_eq_false_iff_eq]; omega
          have nn1 : n1l ≤ 62 := by have := sb.out.1; omega
          clear d1 d2 d3 d4 d5 nl na DL
          have gl0 := Gl.out.c0
          have gl1 := Gl.out.c1
          have gl2 := Gl.out.c2
          have gll := Gl.out.lt
          go_wp2_with fail
          clear gl0 gl1 gl2 gll
          have cc := f6word_no A1l n1l c1l bb.st d wr wr.heap.size (by omega) Xl.out.st D1.out
          (try simp only [SV.v] at cc)
          refine cc.mono ?_
          rintro r u31 ⟨rfl, b⟩
          clear cc
          replace Xx := hid (Xx.out.lift b)
          replace Gx := hid (Gx.out.lift b)
          replace Xy := hid (Xy.out.lift b)
          replace Gy := hid (Gy.out.lift b)
          replace Xm := hid (Xm.out.lift b)
          replace Gm := hid (Gm.out.lift b)
          replace Xa := hid (Xa.out.lift b)
          replace Ga := hid (Ga.out.lift b)
          replace Xb := hid (Xb.out.lift b)
          replace Gb := hid (Gb.out.lift b)
          replace Xl := hid (Xl.out.lift b)
          replace Gl := hid (Gl.out.lift b)
          replace Xc := hid (Xc.out.lift b)
          replace Gc := hid (Gc.out.lift b)
          replace Lwi := hid (SlI.lift Lwi.out b)
          replace Lws := hid (SlI.lift Lws.out b)
          replace Loi := hid (SlT.lift Loi.out b)
          replace Los := hid (SlT.lift Los.out b)
          replace Ldi := hid (SlT.lift Ldi.out b)
          replace Lds := hid (SlT.lift Lds.out b)
          replace Lsi := hid (SlI.lift Lsi.out b)
          replace Lss := hid (SlI.lift Lss.out b)
          replace E := E.trans (b.mono E.size)
          clear b
          have gl0 := Gl.out.c0
          have gl1 := Gl.out.c1
          have gl2 := Gl.out.c2
          have gll := Gl.out.lt
          have nn2 : n2l ≤ 62 := by have := sb.out.2.1; have := Xl.out.rm.len; simp only at this; omega
          go_wp2_with fail
          clear gl0 gl1 gl2 gll
          have cc := f6word_no A2l n2l c2l bb.rm d u31 u31.heap.size (by omega) Xl.out.rm D2.out
          (try simp only [SV.v] at cc)
          refine cc.mono ?_
          rintro r u32 ⟨rfl, b⟩
          clear cc
          replace Xx := hid (Xx.out.lift b)
          replace Gx := hid (Gx.out.lift b)
          replace Xy := hid (Xy.out.lift b)
          replace Gy := hid (Gy.out.lift b)
          replace Xm := hid (Xm.out.lift b)
          replace Gm := hid (Gm.out.lift b)
          replace Xa := hid (Xa.out.lift b)
          replace Ga := hid (Ga.out.lift b)
          replace Xb := hid (Xb.out.lift b)
          replace Gb := hid (Gb.out.lift b)
          replace Xl := hid (Xl.out.lift b)
          replace Gl := hid (Gl.out.lift b)
          replace Xc := hid (Xc.out.lift b)
          replace Gc := hid (Gc.out.lift b)
          replace Lwi := hid (SlI.lift Lwi.out b)
          replace Lws := hid (SlI.lift Lws.out b)
          replace Loi := hid (SlT.lift Loi.out b)
          replace Los := hid (SlT.lift Los.out b)
          replace Ldi := hid (SlT.lift Ldi.out b)
          replace Lds := hid (SlT.lift Lds.out b)
          replace Lsi := hid (SlI.lift Lsi.out b)
          replace Lss := hid (SlI.lift Lss.out b)
          replace E := E.trans (b.mono E.size)
          clear b
          have gl0 := Gl.out.c0
          have gl1 := Gl.out.c1
          have gl2 := Gl.out.c2
          have gll := Gl.out.lt
          have ga0 := Ga.out.c0
          have ga1 := Ga.out.c1
          have ga2 := Ga.out.c2
          have gal := Ga.out.lt
          have gb0 := Gb.out.c0
          have gb1 := Gb.out.c1
          have gb2 := Gb.out.c2
          have gbl := Gb.out.lt
          go_wp2_with fail
          clear gl0 gl1 gl2 gll ga0 ga1 ga2 gal gb0 gb1 gb2 gbl
          have c1 := implValidScheme_any ⟨A1b, n1b, c1b, A2b, n2b, c2b, A3b, n3b, c3b⟩ bb u32 u32.heap.size (Nat.le_refl _) (sb.out.num Xb.out) Xb.out (hid sb.out.big)
          rw [D4.out] at c1
          have cc := c1
          clear c1
          (try simp only [SV.v] at cc)
          refine cc.mono ?_
          rintro r u33 ⟨rfl, b⟩
          clear cc
          replace Xx := hid (Xx.out.lift b)
          replace Gx := hid (Gx.out.lift b)
          replace Xy := hid (Xy.out.lift b)
          replace Gy := hid (Gy.out.lift b)
          replace Xm := hid (Xm.out.lift b)
          replace Gm := hid (Gm.out.lift b)
          replace Xa := hid (Xa.out.lift b)
          replace Ga := hid (Ga.out.lift b)
          replace Xb := hid (Xb.out.lift b)
          replace Gb := hid (Gb.out.lift b)
          replace Xl := hid (Xl.out.lift b)
          replace Gl := hid (Gl.out.lift b)
          replace Xc := hid (Xc.out.lift b)
          replace Gc := hid (Gc.out.lift b)
          replace Lwi := hid (SlI.lift Lwi.out b)
          replace Lws := hid (SlI.lift Lws.out b)
          replace Loi := hid (SlT.lift Loi.out b)
          replace Los := hid (SlT.lift Los.out b)
          replace Ldi := hid (SlT.lift Ldi.out b)
          replace Lds := hid (SlT.lift Lds.out b)
          replace Lsi := hid (SlI.lift Lsi.out b)
          replace Lss := hid (SlI.lift Lss.out b)
          replace E := E.trans (b.mono E.size)
          clear b
          have gl0 := Gl.out.c0
          have gl1 := Gl.out.c1
          have gl2 := Gl.out.c2
          have gll := Gl.out.lt
          have nn3 : n3l ≤ 62 := by have := sb.out.2.2.1; have := Xl.out.wy.len; simp only at this; omega
          clear gl0 gl1 gl2 gll
          clear j1 j2
          go_wp2_with fail
          go_loopw [39] (fun i wl => ∃ k : Nat, k ≤ n3l ∧ i = .int .i64 k ∧ Below u33.heap.size u33 wl) (fun i _ => n3l - (intOf i).toNat)
          case atStart => exact ⟨0, Nat.zero_le _, rfl, Below.refl _ _⟩
          case round =>
            obtain ⟨k, hk, rfl, hb⟩ := hrel
            have gl := Gl.out.lift hb
            have gl2 := gl.c2
            have gll := gl.lt
            by_cases hkl : k < n3l
            · obtain ⟨f', t', m', wb, wo, Hy, rfl, hwb, l0, l1, l2⟩ := ((Xl.out.lift hb).wy).atWay hkl
              have hne := D5.out _ (List.mem_of_getElem? Hy.out)
              simp only at hne
              have q1 := bs_ne hne.1
              have q2 := bs_ne hne.2
              have hk0 : (0 : Int) ≤ (k : Int) := by omega
              have hk1 : (k : Int) < (n3l : Int) := by omega
              clear hne gl
              go_wp2
              go_roundw
              all_goals first | exact ⟨k + 1, by omega, by go_num, hb⟩ | exact ⟨⟨k + 1, by omega, by go_num, hb⟩, by simp [intOf]; omega⟩ | (simp [intOf]; omega)
            · replace E := E.trans (hb.mono E.size)
              replace Xx := hid (Xx.out.lift hb)
              replace Gx := hid (Gx.out.lift hb)
              replace Xy := hid (Xy.out.lift hb)
              replace Gy := hid (Gy.out.lift hb)
              replace Xm := hid (Xm.out.lift hb)
              replace Gm := hid (Gm.out.lift hb)
              replace Xa := hid (Xa.out.lift hb)
              replace Ga := hid (Ga.out.lift hb)
              replace Xb := hid (Xb.out.lift hb)
              replace Gb := hid (Gb.out.lift hb)
              replace Xl := hid (Xl.out.lift hb)
              replace Gl := hid (Gl.out.lift hb)
              replace Xc := hid (Xc.out.lift hb)
              replace Gc := hid (Gc.out.lift hb)
              replace Lwi := hid (SlI.lift Lwi.out hb)
              replace Lws := hid (SlI.lift Lws.out hb)
              replace Loi := hid (SlT.lift Loi.out hb)
              replace Los := hid (SlT.lift Los.out hb)
              replace Ldi := hid (SlT.lift Ldi.out hb)
              replace Lds := hid (SlT.lift Lds.out hb)
              replace Lsi := hid (SlI.lift Lsi.out hb)
              replace Lss := hid (SlI.lift Lss.out hb)
              clear hb gl gl2 gll
              by_cases hq : q = 0
              · subst hq
                have bk := BK.out rfl
                have hn13 : z.size ≤ 9223372036854775807 ∧ t.size ≤ 9223372036854775807 := by omega
                obtain ⟨hzz, htt⟩ := hn13
                have xx : sameX x x = true := by simp [sameX]
                have XX := hid xx
                have HB := hid bk
                clear bk xx
                have gy0 := Gy.out.c0
                have gy1 := Gy.out.c1
                have gy2 := Gy.out.c2
                have gyl := Gy.out.lt
                have gl0 := Gl.out.c0
                have gl1 := Gl.out.c1
                have gl2 := Gl.out.c2
                have gll := Gl.out.lt
                go_wp2_with fail
                clear gy0 gy1 gy2 gyl gl0 gl1 gl2 gll
                have cc := (XPost.parts (implRenameStation_any ⟨A1y, n1y, c1y, A2y, n2y, c2y, A3y, n3y, c3y⟩ y t z wr wr.heap.size (Nat.le_refl _) (sy.out.num Xy.out) Xy.out (hid sy.out.big) htt hzz))
                (try simp only [SV.v] at cc)
                refine cc.mono ?_
                rintro r u34 ⟨A1k, n1k, c1k, A2k, n2k, c2k, A3k, n3k, c3k, rfl, ok, b⟩
                clear cc
                replace Xx := hid (Xx.out.lift b)
                replace Gx := hid (Gx.out.lift b)
                replace Xy := hid (Xy.out.lift b)
                replace Gy := hid (Gy.out.lift b)
                replace Xm := hid (Xm.out.lift b)
                replace Gm := hid (Gm.out.lift b)
                replace Xa := hid (Xa.out.lift b)
                replace Ga := hid (Ga.out.lift b)
                replace Xb := hid (Xb.out.lift b)
                replace Gb := hid (Gb.out.lift b)
                replace Xl := hid (Xl.out.lift b)
                replace Gl := hid (Gl.out.lift b)
                replace Xc := hid (Xc.out.lift b)
                replace Gc := hid (Gc.out.lift b)
                replace Lwi := hid (SlI.lift Lwi.out b)
                replace Lws := hid (SlI.lift Lws.out b)
                replace Loi := hid (SlT.lift Loi.out b)
                replace Los := hid (SlT.lift Los.out b)
                replace Ldi := hid (SlT.lift Ldi.out b)
                replace Lds := hid (SlT.lift Lds.out b)
                replace Lsi := hid (SlI.lift Lsi.out b)
                replace Lss := hid (SlI.lift Lss.out b)
                replace E := E.trans (b.mono E.size)
                rw [HB.out]
                rw [HB.out] at ok
                simp only at ok
                have Xk := hid ok.sl
                clear ok
                clear b
                have gx0 := Gx.out.c0
                have gx1 := Gx.out.c1
                have gx2 := Gx.out.c2
                have gxl := Gx.out.lt
                obtain ⟨u35, hu35⟩ : ∃ W, W = u34.alloc (.cells #[.slice A1k n1k c1k, .slice A2k n2k c2k, .slice A3k n3k c3k] 29) := ⟨_, rfl⟩
                have b : Below u34.heap.size u34 u35 := by rw [hu35]; exact (Below.refl _ _).alloc (Nat.le_refl _) _
                obtain ⟨gk, ek⟩ : ∃ g, g = u34.heap.size := ⟨_, rfl⟩
                have ak : At3 u35 gk A1k n1k c1k A2k n2k c2k A3k n3k c3k := by rw [hu35, ek]; exact ⟨(World.cell?_alloc_at _ _ _ _ rfl).trans rfl, (World.cell?_alloc_at _ _ _ _ rfl).trans rfl, (World.cell?_alloc_at _ _ _ _ rfl).trans rfl⟩
                replace Xx := hid (Xx.out.lift b)
                replace Gx := hid (Gx.out.lift b)
                replace Xy := hid (Xy.out.lift b)
                replace Gy := hid (Gy.out.lift b)
                replace Xm := hid (Xm.out.lift b)
                replace Gm := hid (Gm.out.lift b)
                replace Xa := hid (Xa.out.lift b)
                replace Ga := hid (Ga.out.lift b)
                replace Xb := hid (Xb.out.lift b)
                replace Gb := hid (Gb.out.lift b)
                replace Xl := hid (Xl.out.lift b)
                replace Gl := hid (Gl.out.lift b)
                replace Xc := hid (Xc.out.lift b)
                replace Gc := hid (Gc.out.lift b)
                replace Lwi := hid (SlI.lift Lwi.out b)
                replace Lws := hid (SlI.lift Lws.out b)
                replace Loi := hid (SlT.lift Loi.out b)
                replace Los := hid (SlT.lift Los.out b)
                replace Ldi := hid (SlT.lift Ldi.out b)
                replace Lds := hid (SlT.lift Lds.out b)
                replace Lsi := hid (SlI.lift Lsi.out b)
                replace Lss := hid (SlI.lift Lss.out b)
                replace Xk := hid (Xk.out.lift b)
                replace E := E.trans (b.mono E.size)
                have HWu35 := hid hu35
                have HEk := hid ek
                have Gk := hid ak
                clear b hu35 ek ak
                go_wp2_with fail
                rw [← HWu35.out]
                rw [← HEk.out]
                clear HWu35 HEk
                clear gx0 gx1 gx2 gxl
                have c1 := specSameScheme_any ⟨A1k, n1k, c1k, A2k, n2k, c2k, A3k, n3k, c3k⟩ ⟨A1x, n1x, c1x, A2x, n2x, c2x, A3x, n3x, c3x⟩ x x u35 u35.heap.size (Nat.le_refl _) (sx.out.num Xk.out) (sx.out.num Xx.out) Xk.out Xx.out
                rw [XX.out] at c1
                have cc := c1
                clear c1
                (try simp only [SV.v] at cc)
                refine cc.mono ?_
                rintro r u36 ⟨rfl, b⟩
                clear cc
                replace Xx := hid (Xx.out.lift b)
                replace Gx := hid (Gx.out.lift b)
                replace Xy := hid (Xy.out.lift b)
                replace Gy := hid (Gy.out.lift b)
                replace Xm := hid (Xm.out.lift b)
                replace Gm := hid (Gm.out.lift b)
                replace Xa := hid (Xa.out.lift b)
                replace Ga := hid (Ga.out.lift b)
                replace Xb := hid (Xb.out.lift b)
                replace Gb := hid (Gb.out.lift b)
                replace Xl := hid (Xl.out.lift b)
                replace Gl := hid (Gl.out.lift b)
                replace Xc := hid (Xc.out.lift b)
                replace Gc := hid (Gc.out.lift b)
                replace Lwi := hid (SlI.lift Lwi.out b)
                replace Lws := hid (SlI.lift Lws.out b)
                replace Loi := hid (SlT.lift Loi.out b)
                replace Los := hid (SlT.lift Los.out b)
                replace Ldi := hid (SlT.lift Ldi.out b)
                replace Lds := hid (SlT.lift Lds.out b)
                replace Lsi := hid (SlI.lift Lsi.out b)
                replace Lss := hid (SlI.lift Lss.out b)
                replace Xk := hid (Xk.out.lift b)
                replace Gk := hid (Gk.out.lift b)
                replace E := E.trans (b.mono E.size)
                clear b
                go_wp2_with fail
                go_ret
                exact ⟨rfl, E⟩
              · have q1 : (q == 0) = false := by simpa using hq
                have q2 : (q != 0) = true := by simpa using hq
                clear hq
                have gl2 := Gl.out.c2
                have gll := Gl.out.lt
                go_wp2_with fail
                go_ret
                exact ⟨rfl, E⟩
        · have p1 : (p == 0) = false := by simpa using hp
          have p2 : (p != 0) = true := by simpa using hp
          clear hp
          by_cases hq : q = 0
          · subst hq
            have bk := BK.out rfl
            have hn13 : z.size ≤ 9223372036854775807 ∧ t.size ≤ 9223372036854775807 := by omega
            obtain ⟨hzz, htt⟩ := hn13
            have xx : sameX x x = true := by simp [sameX]
            have XX := hid xx
            have HB := hid bk
            clear bk xx
            have gy0 := Gy.out.c0
            have gy1 := Gy.out.c1
            have gy2 := Gy.out.c2
            have gyl := Gy.out.lt
            go_wp2_with fail
            clear gy0 gy1 gy2 gyl
            have cc := (XPost.parts (implRenameStation_any ⟨A1y, n1y, c1y, A2y, n2y, c2y, A3y, n3y, c3y⟩ y t z wr wr.heap.size (Nat.le_refl _) (sy.out.num Xy.out) Xy.out (hid sy.out.big) htt hzz))
            (try simp only [SV.v] at cc)
            refine cc.mono ?_
            rintro r u37 ⟨A1k, n1k, c1k, A2k, n2k, c2k, A3k, n3k, c3k, rfl, ok, b⟩
            clear cc
            replace Xx := hid (Xx.out.lift b)
            replace Gx := hid (Gx.out.lift b)
            replace Xy := hid (Xy.out.lift b)
            replace Gy := hid (Gy.out.lift b)
            replace Xm := hid (Xm.out.lift b)
            replace Gm := hid (Gm.out.lift b)
            replace Xa := hid (Xa.out.lift b)
            replace Ga := hid (Ga.out.lift b)
            replace Xb := hid (Xb.out.lift b)
            replace Gb := hid (Gb.out.lift b)
            replace Xl := hid (Xl.out.lift b)
            replace Gl := hid (Gl.out.lift b)
            replace Xc := hid (Xc.out.lift b)
            replace Gc := hid (Gc.out.lift b)
            replace Lwi := hid (SlI.lift Lwi.out b)
            replace Lws := hid (SlI.lift Lws.out b)
            replace Loi := hid (SlT.lift Loi.out b)
            replace Los := hid (SlT.lift Los.out b)
            replace Ldi := hid (SlT.lift Ldi.out b)
            replace Lds := hid (SlT.lift Lds.out b)
            replace Lsi := hid (SlI.lift Lsi.out b)
            replace Lss := hid (SlI.lift Lss.out b)
            replace E := E.trans (b.mono E.size)
            rw [HB.out]
            rw [HB.out] at ok
            simp only at ok
            have Xk := hid ok.sl
            clear ok
            clear b
            have gx0 := Gx.out.c0
            have gx1 := Gx.out.c1
            have gx2 := Gx.out.c2
            have gxl := Gx.out.lt
            obtain ⟨u38, hu38⟩ : ∃ W, W = u37.alloc (.cells #[.slice A1k n1k c1k, .slice A2k n2k c2k, .slice A3k n3k c3k] 29) := ⟨_, rfl⟩
            have b : Below u37.heap.size u37 u38 := by rw [hu38]; exact (Below.refl _ _).alloc (Nat.le_refl _) _
            obtain ⟨gk, ek⟩ : ∃ g, g = u37.heap.size := ⟨_, rfl⟩
            have ak : At3 u38 gk A1k n1k c1k A2k n2k c2k A3k n3k c3k := by rw [hu38, ek]; exact ⟨(World.cell?_alloc_at _ _ _ _ rfl).trans rfl, (World.cell?_alloc_at _ _ _ _ rfl).trans rfl, (World.cell?_alloc_at _ _ _ _ rfl).trans rfl⟩
            replace Xx := hid (Xx.out.lift b)
            replace Gx := hid (Gx.out.lift b)
            replace Xy := hid (Xy.out.lift b)
            replace Gy := hid (Gy.out.lift b)
            replace Xm := hid (Xm.out.lift b)
            replace Gm := hid (Gm.out.lift b)
            replace Xa := hid (Xa.out.lift b)
            replace Ga := hid (Ga.out.lift b)
            replace Xb := hid (Xb.out.lift b)
            replace Gb := hid (Gb.out.lift b)
            replace Xl := hid (Xl.out.lift b)
            replace Gl := hid (Gl.out.lift b)
            replace Xc := hid (Xc.out.lift b)
            replace Gc := hid (Gc.out.lift b)
            replace Lwi := hid (SlI.lift Lwi.out b)
            replace Lws := hid (SlI.lift Lws.out b)
            replace Loi := hid (SlT.lift Loi.out b)
            replace Los := hid (SlT.lift Los.out b)
            replace Ldi := hid (SlT.lift Ldi.out b)
            replace Lds := hid (SlT.lift Lds.out b)
            replace Lsi := hid (SlI.lift Lsi.out b)
            replace Lss := hid (SlI.lift Lss.out b)
            replace Xk := hid (Xk.out.lift b)
            replace E := E.trans (b.mono E.size)
            have HWu38 := hid hu38
            have HEk := hid ek
            have Gk := hid ak
            clear b hu38 ek ak
            go_wp2_with fail
            rw [← HWu38.out]
            rw [← HEk.out]
            clear HWu38 HEk
            clear gx0 gx1 gx2 gxl
            have c1 := specSameScheme_any ⟨A1k, n1k, c1k, A2k, n2k, c2k, A3k, n3k, c3k⟩ ⟨A1x, n1x, c1x, A2x, n2x, c2x, A3x, n3x, c3x⟩ x x u38 u38.heap.size (Nat.le_refl _) (sx.out.num Xk.out) (sx.out.num Xx.out) Xk.out Xx.out
            rw [XX.out] at c1
            have cc := c1
            clear c1
            (try simp only [SV.v] at cc)
            refine cc.mono ?_
            rintro r u39 ⟨rfl, b⟩
            clear cc
            replace Xx := hid (Xx.out.lift b)
            replace Gx := hid (Gx.out.lift b)
            replace Xy := hid (Xy.out.lift b)
            replace Gy := hid (Gy.out.lift b)
            replace Xm := hid (Xm.out.lift b)
            replace Gm := hid (Gm.out.lift b)
            replace Xa := hid (Xa.out.lift b)
            replace Ga := hid (Ga.out.lift b)
            replace Xb := hid (Xb.out.lift b)
            replace Gb := hid (Gb.out.lift b)
            replace Xl := hid (Xl.out.lift b)
            replace Gl := hid (Gl.out.lift b)
            replace Xc := hid (Xc.out.lift b)
            replace Gc := hid (Gc.out.lift b)
            replace Lwi := hid (SlI.lift Lwi.out b)
            replace Lws := hid (SlI.lift Lws.out b)
            replace Loi := hid (SlT.lift Loi.out b)
            replace Los := hid (SlT.lift Los.out b)
            replace Ldi := hid (SlT.lift Ldi.out b)
            replace Lds := hid (SlT.lift Lds.out b)
            replace Lsi := hid (SlI.lift Lsi.out b)
            replace Lss := hid (SlI.lift Lss.out b)
            replace Xk := hid (Xk.out.lift b)
            replace Gk := hid (Gk.out.lift b)
            replace E := E.trans (b.mono E.size)
            clear b
            go_wp2_with fail
            go_ret
            exact ⟨rfl, E⟩
          · have q1 : (q == 0) = false := by simpa using hq
            have q2 : (q != 0) = true := by simpa using hq
            clear hq
            go_wp2_with fail
            go_ret
            exact ⟨rfl, E⟩
end Go.Proofs.Ytmanbpobdaamfaa
