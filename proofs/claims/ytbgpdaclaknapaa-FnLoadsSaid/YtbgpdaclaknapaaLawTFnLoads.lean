/-
  The statement on loads, walked. No condition.
-/
import Derived.Test.YtbgpdaclaknapaaTDraw4
import Derived.Test.YtbgpdaclaknapaaTLoadsP
import Derived.Test.YtbgpdaclaknapaaTLoop2
import Derived.Test.YtbgpdaclaknapaaTRaise2
import Derived.Test.YtbgpdaclaknapaaTDraw3
import Derived.Test.YtbgpdaclaknapaaTCheapI
import Derived.Test.YtbgpdaclaknapaaTCheapS
import Derived.Test.YtbgpdaclaknapaaTSplit2
import Derived.Test.YtbgpdaclaknapaaTSame
import Derived.Test.YtbgpdaclaknapaaTPriceFor
import Derived.Test.YtbgpdaclaknapaaBOpen
namespace Go.Proofs.Ytbgpdaclaknapaa
open Go.RowKit
set_option maxHeartbeats 400000

theorem SlT.lift {w w' : World} {A : Option Addr} {n : Nat} {ts : List TRow} (h : SlT w w.heap.size A n ts) (hb : Below w.heap.size w w') : SlT w' w'.heap.size A n ts := (h.below hb).more hb.size
theorem Sl.lift {α : Type} {k : Nat} {enc : α → List Value} {w w' : World} {A : Option Addr} {n : Nat} {xs : List α} (h : Sl w w.heap.size k enc A n xs) (hb : Below w.heap.size w w') : Sl w' w'.heap.size k enc A n xs := (h.below hb).more hb.size
set_option maxHeartbeats 8000000 in
set_option maxRecDepth 100000 in
theorem FnLoads_walk (v : Value) (w : World) (hv : Bytes w w.heap.size 9223372036854775807 v) :
    Calls Try.prog 5 #[v] w fun r w' => r = .returned (.bool true) ∧ Below w.heap.size w w' := by
  obtain ⟨A0, n0, c0, bs, rfl, hn, hbx, hbz⟩ := hv
  have hbig := fun W => f6big_any A0 n0 c0 W hn
  by_cases h4 : 4096 < n0
  · have e : decide (4096 < n0) = true := by simpa using h4
    rw [e] at hbig
    clear hbx hbz h4 e
    go_enter Try.func5, Try.ntmps5
    go_wp2_with fail
    refine (hbig _).mono ?_
    rintro r w1 ⟨rfl, e⟩
    replace e := e.symm
    subst e
    go_wp2_with fail
    go_ret
    exact ⟨rfl, Below.refl _ _⟩
  · have e : decide (4096 < n0) = false := by simpa using h4
    rw [e] at hbig
    have hv : Bytes w w.heap.size 5000 (.slice A0 n0 c0) := ⟨A0, n0, c0, bs, rfl, by omega, hbx, hbz⟩
    have hd := DrawCheapestTariff_any _ w hv
    have HV := hid hv
    clear hbx hbz h4 e hv
    go_enter Try.func5, Try.ntmps5
    go_wp2_with fail
    refine (hbig _).mono ?_
    rintro r w1 ⟨rfl, e⟩
    replace e := e.symm
    subst e
    clear hbig
    go_wp2_with fail
    refine hd.mono ?_
    rintro r w1 ⟨A, c, ts, Ag, cg, ga, Am, cm, ma, rfl, h1, h2, h3, h4, hX, hG, hM, b1⟩
    clear hd
    obtain ⟨R, hR⟩ : ∃ R, R = cheapT (tars ts) ga ma := ⟨_, rfl⟩
    have cI := fun W hx hy hz => implCheapestTariff_any A ts.length c ts Ag ga.length cg ga Am ma.length cm ma W W.heap.size (Nat.le_refl _) (by omega) (by omega) (by omega) hx hy hz
    have cS := fun W hx hy hz => specCheapestTariff_any A ts.length c ts Ag ga.length cg ga Am ma.length cm ma W W.heap.size (Nat.le_refl _) (by omega) (by omega) (by omega) hx hy hz
    rw [← hR] at cI cS
    obtain ⟨best, least, bad⟩ := R
    simp only [tripI] at cI cS
    have O1 : Hid (bad = 0 → (tars ts).all validT = true ∧ ga.length = ma.length ∧ ga.length ≤ 40 ∧ numsT ga ma = true ∧ ∀ (i : Nat) (t : Tariff), (tars ts)[i]? = some t → (∀ s, sumTo t ga ma ga.length = some s → least ≤ s) ∧ (best = (i : Int) → sumTo t ga ma ga.length = some least)) := fun hb => cheap_law (by rw [← hR, hb])
    clear hR
    go_wp2_with fail
    refine (cI _ hX.out hG.out hM.out).mono ?_
    rintro r w2 ⟨rfl, b2⟩
    have e2 := b1.trans (b2.mono b1.size)
    have X2 := hid (hX.out.lift b2)
    have G2 := hid (hG.out.lift b2)
    have M2 := hid (hM.out.lift b2)
    clear hX hG hM b1 b2 cI
    go_wp2_with fail
    refine (cS _ X2.out G2.out M2.out).mono ?_
    rintro r w3 ⟨rfl, b3⟩
    have e3 := e2.trans (b3.mono e2.size)
    have X3 := hid (X2.out.lift b3)
    have G3 := hid (G2.out.lift b3)
    have M3 := hid (M2.out.lift b3)
    have hd := DrawSplitLoad_any (.slice A0 n0 c0) w3 ((HV.out.below e3).more e3.size)
    clear X2 G2 M2 b3 e2 cS
    go_wp2_with fail
    refine hd.mono ?_
    rintro r w4 ⟨A1, c1, xs, h1, e1, m1, g1, rfl, l1, Y4, b4⟩
    have e4 := e3.trans (b4.mono e3.size)
    have X4 := hid (X3.out.lift b4)
    have G4 := hid (G3.out.lift b4)
    have M4 := hid (M3.out.lift b4)
    clear X3 G3 M3 b4 e3 hd
    obtain ⟨R, hR⟩ : ∃ R, R = splitF xs h1 e1 m1 g1 := ⟨_, rfl⟩
    have cI := fun W hx => implSplitLoad_any A1 xs.length c1 xs h1 e1 m1 g1 W W.heap.size (Nat.le_refl _) (by omega) hx
    have cS := fun W hx => specSplitLoad_any A1 xs.length c1 xs h1 e1 m1 g1 W W.heap.size (Nat.le_refl _) (by omega) hx
    rw [← hR] at cI cS
    obtain ⟨parts, cost, one⟩ := R
    simp only [tripI] at cI cS
    have O2 : Hid (one = 0 → (1 ≤ parts ∧ parts ≤ 10) ∧ ∀ z, priceF xs h1 e1 m1 g1 false = (z, 0) → cost ≤ z) := fun hb => split_law (by rw [← hR, hb])
    clear hR
    go_wp2_with fail
    refine (cI _ (Y4.out.lift ((Below.refl _ _).alloc (Nat.le_refl _) _))).mono ?_
    rintro r w6 ⟨rfl, b6⟩
    have k0 : w6.cell? ⟨w4.heap.size, 0, none⟩ = some (.slice A1 xs.length c1) := below_cell (by go_simp) b6
    have k1 : w6.cell? ⟨w4.heap.size, 1, none⟩ = some (.int .i64 h1) := below_cell (by go_simp) b6
    have k2 : w6.cell? ⟨w4.heap.size, 2, none⟩ = some (.int .i64 e1) := below_cell (by go_simp) b6
    have B6 : Below w4.heap.size w4 w6 := ((Below.refl _ _).alloc (Nat.le_refl _) _).trans (b6.mono (by simp))
    have e6 := e4.trans (B6.mono e4.size)
    have X6 := hid (X4.out.lift B6)
    have G6 := hid (G4.out.lift B6)
    have M6 := hid (M4.out.lift B6)
    have Y6 := hid (Y4.out.lift B6)
    clear X4 G4 M4 Y4 e4 B6 b6 cI
    have lt6 := World.block_lt_of_cell? _ _ k0
    simp only at lt6
    go_wp2_with fail
    refine (cS _ Y6.out).mono ?_
    rintro r w7 ⟨rfl, b7⟩
    replace k0 := below_cell k0 b7
    replace k1 := below_cell k1 b7
    replace k2 := below_cell k2 b7
    replace lt6 := Nat.lt_of_lt_of_le lt6 b7.size
    have e7 := e6.trans (b7.mono e6.size)
    have X7 := hid (X6.out.lift b7)
    have G7 := hid (G6.out.lift b7)
    have M7 := hid (M6.out.lift b7)
    have Y7 := hid (Y6.out.lift b7)
    have hd := DrawRaiseTariff_any (.slice A0 n0 c0) w7 ((HV.out.below e7).more e7.size)
    clear X6 G6 M6 Y6 e6 b7 cS HV
    go_wp2_with fail
    refine hd.mono ?_
    rintro r w8 ⟨A2, c2, zs, h2, e2, p2, rfl, l2, Z8, b8⟩
    replace k0 := below_cell k0 b8
    replace k1 := below_cell k1 b8
    replace k2 := below_cell k2 b8
    replace lt6 := Nat.lt_of_lt_of_le lt6 b8.size
    have e8 := e7.trans (b8.mono e7.size)
    have X8 := hid (X7.out.lift b8)
    have G8 := hid (G7.out.lift b8)
    have M8 := hid (M7.out.lift b8)
    have Y8 := hid (Y7.out.lift b8)
    clear X7 G7 M7 Y7 e7 b8 hd
    obtain ⟨R, hR⟩ : ∃ R, R = raiseT zs h2 e2 p2 := ⟨_, rfl⟩
    have cI := fun W hx => implRaiseTariff_any A2 zs.length c2 zs h2 e2 p2 W W.heap.size (Nat.le_refl _) (by omega) hx
    have cS := fun W hx => specRaiseTariff_any A2 zs.length c2 zs h2 e2 p2 W W.heap.size (Nat.le_refl _) (by omega) hx
    have hres := raiseT_len zs h2 e2 p2
    rw [← hR] at cI cS hres
    obtain ⟨ys, h3, e3, two⟩ := R
    simp only at hres
    have O3 : Hid (two = 0 → ys.length = zs.length ∧ h2 ≤ h3 ∧ validT ⟨ys, h3, e3⟩ = true ∧ ∀ (k : Nat) (x y : Step), zs[k]? = some x → ys[k]? = some y → y.g = x.g ∧ x.p ≤ y.p) := fun hb => raise_law (by rw [← hR, hb])
    clear hR
    go_wp2_with fail
    refine (cI _ (Z8.out.lift ((Below.refl _ _).alloc (Nat.le_refl _) _))).mono ?_
    rintro r w9 h
    obtain ⟨A3, n3, c3, hr, o9, b9⟩ := h
    simp only at hr o9
    subst hr
    obtain rfl := own_len encStep_len (by omega) o9
    replace k0 := below_cell k0 (((Below.refl _ _).alloc (Nat.le_refl _) _).trans (b9.mono (by simp)))
    replace k1 := below_cell k1 (((Below.refl _ _).alloc (Nat.le_refl _) _).trans (b9.mono (by simp)))
    replace k2 := below_cell k2 (((Below.refl _ _).alloc (Nat.le_refl _) _).trans (b9.mono (by simp)))
    have j0 : w9.cell? ⟨w8.heap.size, 0, none⟩ = some (.slice A2 zs.length c2) := below_cell (by go_simp) b9
    have j1 : w9.cell? ⟨w8.heap.size, 1, none⟩ = some (.int .i64 h2) := below_cell (by go_simp) b9
    have j2 : w9.cell? ⟨w8.heap.size, 2, none⟩ = some (.int .i64 e2) := below_cell (by go_simp) b9
    have B9 : Below w8.heap.size w8 w9 := ((Below.refl _ _).alloc (Nat.le_refl _) _).trans (b9.mono (by simp))
    replace lt6 := Nat.lt_of_lt_of_le lt6 B9.size
    have e9 := e8.trans (B9.mono e8.size)
    have X9 := hid (X8.out.lift B9)
    have G9 := hid (G8.out.lift B9)
    have M9 := hid (M8.out.lift B9)
    have Y9 := hid (Y8.out.lift B9)
    have Z9 := hid (Z8.out.lift B9)
    have V9 := hid (own_sl encStep_len (by omega) o9)
    clear X8 G8 M8 Y8 Z8 e8 B9 b9 o9 cI
    have lt8 := World.block_lt_of_cell? _ _ j0
    simp only at lt8
    go_wp2_with fail
    refine (cS _ (Z9.out.lift ((Below.refl _ _).alloc (Nat.le_refl _) _))).mono ?_
    rintro r w10 h
    obtain ⟨A4, n4, c4, hr, o10, b10⟩ := h
    simp only at hr o10
    subst hr
    obtain rfl := own_len encStep_len (by omega) o10
    replace k0 := below_cell k0 (((Below.refl _ _).alloc (Nat.le_refl _) _).trans (b10.mono (by simp)))
    replace k1 := below_cell k1 (((Below.refl _ _).alloc (Nat.le_refl _) _).trans (b10.mono (by simp)))
    replace k2 := below_cell k2 (((Below.refl _ _).alloc (Nat.le_refl _) _).trans (b10.mono (by simp)))
    replace j0 := below_cell j0 (((Below.refl _ _).alloc (Nat.le_refl _) _).trans (b10.mono (by simp)))
    replace j1 := below_cell j1 (((Below.refl _ _).alloc (Nat.le_refl _) _).trans (b10.mono (by simp)))
    replace j2 := below_cell j2 (((Below.refl _ _).alloc (Nat.le_refl _) _).trans (b10.mono (by simp)))
    have i0 : w10.cell? ⟨w9.heap.size, 0, none⟩ = some (.slice A3 ys.length c3) := below_cell (by go_simp) b10
    have i1 : w10.cell? ⟨w9.heap.size, 1, none⟩ = some (.int .i64 h3) := below_cell (by go_simp) b10
    have i2 : w10.cell? ⟨w9.heap.size, 2, none⟩ = some (.int .i64 e3) := below_cell (by go_simp) b10
    have B10 : Below w9.heap.size w9 w10 := ((Below.refl _ _).alloc (Nat.le_refl _) _).trans (b10.mono (by simp))
    replace lt6 := Nat.lt_of_lt_of_le lt6 B10.size
    replace lt8 := Nat.lt_of_lt_of_le lt8 B10.size
    have e10 := e9.trans (B10.mono e9.size)
    have X10 := hid (X9.out.lift B10)
    have G10 := hid (G9.out.lift B10)
    have M10 := hid (M9.out.lift B10)
    have Y10 := hid (Y9.out.lift B10)
    have Z10 := hid (Z9.out.lift B10)
    have V10 := hid (V9.out.lift B10)
    have U10 := hid (own_sl encStep_len (by omega) o10)
    clear X9 G9 M9 Y9 Z9 V9 e9 B10 b10 o10 cS
    have lt9 := World.block_lt_of_cell? _ _ i0
    simp only at lt9
    have cE := fun W hx hy => specSameTariff_any A3 ys.length c3 A4 ys.length c4 ys ys h3 e3 h3 e3 W W.heap.size (Nat.le_refl _) (by omega) (by omega) hx hy
    rw [sameT_refl] at cE
    go_wp2_with fail
    refine (cE _ (V10.out.lift ((Below.refl _ _).alloc (Nat.le_refl _) _)) (U10.out.lift ((Below.refl _ _).alloc (Nat.le_refl _) _))).mono ?_
    rintro r w11 ⟨rfl, b11⟩
    replace k0 := below_cell k0 (((Below.refl _ _).alloc (Nat.le_refl _) _).trans (b11.mono (by simp)))
    replace k1 := below_cell k1 (((Below.refl _ _).alloc (Nat.le_refl _) _).trans (b11.mono (by simp)))
    replace k2 := below_cell k2 (((Below.refl _ _).alloc (Nat.le_refl _) _).trans (b11.mono (by simp)))
    replace j0 := below_cell j0 (((Below.refl _ _).alloc (Nat.le_refl _) _).trans (b11.mono (by simp)))
    replace j1 := below_cell j1 (((Below.refl _ _).alloc (Nat.le_refl _) _).trans (b11.mono (by simp)))
    replace j2 := below_cell j2 (((Below.refl _ _).alloc (Nat.le_refl _) _).trans (b11.mono (by simp)))
    replace i0 := below_cell i0 (((Below.refl _ _).alloc (Nat.le_refl _) _).trans (b11.mono (by simp)))
    replace i1 := below_cell i1 (((Below.refl _ _).alloc (Nat.le_refl _) _).trans (b11.mono (by simp)))
    replace i2 := below_cell i2 (((Below.refl _ _).alloc (Nat.le_refl _) _).trans (b11.mono (by simp)))
    have x0 : w11.cell? ⟨w10.heap.size, 0, none⟩ = some (.slice A4 ys.length c4) := below_cell (by go_simp) b11
    have x1 : w11.cell? ⟨w10.heap.size, 1, none⟩ = some (.int .i64 h3) := below_cell (by go_simp) b11
    have x2 : w11.cell? ⟨w10.heap.size, 2, none⟩ = some (.int .i64 e3) := below_cell (by go_simp) b11
    have B11 : Below w10.heap.size w10 w11 := ((Below.refl _ _).alloc (Nat.le_refl _) _).trans (b11.mono (by simp))
    replace lt6 := Nat.lt_of_lt_of_le lt6 B11.size
    replace lt8 := Nat.lt_of_lt_of_le lt8 B11.size
    replace lt9 := Nat.lt_of_lt_of_le lt9 B11.size
    have e11 := e10.trans (B11.mono e10.size)
    have X11 := hid (X10.out.lift B11)
    have G11 := hid (G10.out.lift B11)
    have M11 := hid (M10.out.lift B11)
    have Y11 := hid (Y10.out.lift B11)
    have Z11 := hid (Z10.out.lift B11)
    have V11 := hid (V10.out.lift B11)
    have U11 := hid (U10.out.lift B11)
    clear X10 G10 M10 Y10 Z10 V10 U10 e10 B11 b11 cE
    have lt10 := World.block_lt_of_cell? _ _ x0
    simp only at lt10
    by_cases htwo : two = 0
    · subst htwo
      obtain ⟨q1, q2, q3, q4⟩ := O3.out rfl
      have Q4 := hid q4
      have q5 : ¬ h3 < h2 := by omega
      have q1a : ys.length ≤ zs.length := by omega
      have q1b : zs.length ≤ ys.length := by omega
      have cV := fun W hx => ValidTariff_any A3 ys.length c3 ys h3 e3 W W.heap.size (Nat.le_refl _) (by omega) hx
      rw [q3] at cV
      clear q1 q2 q3 q4 O3
      obtain ⟨wq, hwq⟩ : ∃ wq : World, wq = w11 := ⟨_, rfl⟩
      rw [← hwq] at e11 X11 G11 M11 Y11 Z11 V11 U11 k0 k1 k2 j0 j1 j2 i0 i1 i2 x0 x1 x2 lt6 lt8 lt9 lt10
      go_wp2_with fail
      go_loopw [27] (fun i wl => ∃ k : Nat, k ≤ ys.length ∧ i = .int .i64 k ∧ Below wq.heap.size wq wl) (fun i _ => ys.length - (intOf i).toNat)
      case atStart => exact ⟨0, Nat.zero_le _, rfl, by rw [hwq]; exact Below.refl _ _⟩
      case round =>
        obtain ⟨k, hk, rfl, hb⟩ := hrel
        clear hwq
        replace k0 := below_cell k0 hb
        replace k1 := below_cell k1 hb
        replace k2 := below_cell k2 hb
        replace j0 := below_cell j0 hb
        replace j1 := below_cell j1 hb
        replace j2 := below_cell j2 hb
        replace i0 := below_cell i0 hb
        replace i1 := below_cell i1 hb
        replace i2 := below_cell i2 hb
        replace x0 := below_cell x0 hb
        replace x1 := below_cell x1 hb
        replace x2 := below_cell x2 hb
        have hbs := hb.size
        replace lt6 := Nat.lt_of_lt_of_le lt6 hbs
        replace lt8 := Nat.lt_of_lt_of_le lt8 hbs
        replace lt9 := Nat.lt_of_lt_of_le lt9 hbs
        replace lt10 := Nat.lt_of_lt_of_le lt10 hbs
        by_cases hkn : k < ys.length
        · obtain ⟨⟨yg, yp⟩, b1, o1, hy, rfl, hb1, hc1⟩ := (U11.out.below hb).at_ hkn
          obtain ⟨⟨zg, zp⟩, b2, o2, hz, rfl, hb2, hc2⟩ := (Z11.out.below hb).at_ (show k < zs.length by omega)
          obtain ⟨r1, r2⟩ := Q4.out k _ _ hz hy
          simp only at r1 r2
          subst r1
          have r3 : ¬ yp < zp := by omega
          have y0 : wr.cell? ⟨b1, o1 + k * 2, none⟩ = some (.int .i64 yg) := hc1 0 _ rfl
          have y1 : wr.cell? ⟨b1, o1 + k * 2 + 1, none⟩ = some (.int .i64 yp) := hc1 1 _ rfl
          have z0 : wr.cell? ⟨b2, o2 + k * 2, none⟩ = some (.int .i64 yg) := hc2 0 _ rfl
          have z1 : wr.cell? ⟨b2, o2 + k * 2 + 1, none⟩ = some (.int .i64 zp) := hc2 1 _ rfl
          have kk0 : (0 : Int) ≤ (k : Int) := by omega
          have kk1 : (k : Int) < (ys.length : Int) := by omega
          have kk2 : (k : Int) < (zs.length : Int) := by omega
          clear hy hz hc1 hc2 Q4
          go_wp2_with fail
          go_quiet (fail)
          go_wp2_with fail
          go_roundw
          all_goals first | exact ⟨k + 1, by omega, by go_num, below_drewN hb nq⟩ | exact ⟨⟨k + 1, by omega, by go_num, below_drewN hb nq⟩, by simp [intOf]; omega⟩ | (simp [intOf]; omega)
        · clear Q4
          go_wp2_with fail
          refine (cV _ ((V11.out.below hb).more hbs)).mono ?_
          rintro r w12 ⟨rfl, b12⟩
          have B12 := hb.trans (b12.mono hbs)
          replace k0 := below_cell k0 b12
          replace k1 := below_cell k1 b12
          replace k2 := below_cell k2 b12
          replace lt6 := Nat.lt_of_lt_of_le lt6 b12.size
          have e12 := e11.trans (B12.mono e11.size)
          have X12 := hid (X11.out.lift B12)
          have G12 := hid (G11.out.lift B12)
          have M12 := hid (M11.out.lift B12)
          have Y12 := hid (Y11.out.lift B12)
          clear X11 G11 M11 Y11 Z11 V11 U11 e11 B12 b12 hb hbs cV j0 j1 j2 i0 i1 i2 x0 x1 x2 lt8 lt9 lt10
          by_cases hone : one = 0
          · subst hone
            obtain ⟨⟨p1, p2⟩, p3⟩ := O2.out rfl
            obtain ⟨Z, hZ⟩ : ∃ Z, Z = priceF xs h1 e1 m1 g1 false := ⟨_, rfl⟩
            have cP := fun W hx => specPriceFor_any A1 xs.length c1 xs h1 e1 m1 g1 false W W.heap.size (Nat.le_refl _) (by omega) hx
            rw [← hZ] at cP p3
            obtain ⟨whole, five⟩ := Z
            simp only [pairI] at cP
            have p4 : ¬ parts < 1 := by omega
            have p5 : ¬ 10 < parts := by omega
            have p6 : five = 0 → cost ≤ whole := fun h => p3 whole (by rw [h])
            have P6 := hid p6
            clear p3 p6 hZ
            go_wp2_with fail
            refine (cP _ Y12.out).mono ?_
            rintro r w20 ⟨rfl, b20⟩
            have e20 := e12.trans (b20.mono e12.size)
            have X20 := hid (X12.out.lift b20)
            have G20 := hid (G12.out.lift b20)
            have M20 := hid (M12.out.lift b20)
            clear X12 G12 M12 Y12 b20 e12 cP k0 k1 k2 lt6
            by_cases h5 : five = 0
            · subst h5
              have p7 : ¬ whole < cost := by have := P6.out rfl; omega
              clear P6
              by_cases hbad : bad = 0
              · subst hbad
                obtain ⟨o1, o2, o3, o4, o5⟩ := O1.out rfl
                have HV : Hid (∀ (i : Nat) (r : TRow), ts[i]? = some r → validT ⟨r.xs, r.h, r.e⟩ = true) := fun i r hr => List.all_eq_true.1 o1 _ (List.mem_of_getElem? (tars_at hr))
                have HB : Hid (∀ (i : Nat) (r : TRow), ts[i]? = some r → (∀ s, sumTo ⟨r.xs, r.h, r.e⟩ ga ma ga.length = some s → least ≤ s) ∧ (best = (i : Int) → sumTo ⟨r.xs, r.h, r.e⟩ ga ma ga.length = some least)) := fun i r hr => o5 i _ (tars_at hr)
                have hat := nums_at o4
                have HG := hid hat.1
                have HM := hid hat.2
                have lg1 : ga.length ≤ ma.length := by omega
                have lg2 : ma.length ≤ ga.length := by omega
                clear o1 o2 o4 o5 hat O1 O2
                go_wp2_with fail
                refine loads2_any A c ts Ag cg ga Am cm ma best least w20 (by assumption) (by assumption) (by assumption) (by assumption) lg1 lg2 HV HB HG HM X20 G20 M20 _ _ _ _ _ _ _ _ _ _ _ _ _ _ _ _ _ _ _ _ _ _ _ _ _ _ _ _ _ _ _ _ _ _ _ _ _ _ _ _ _ _ _ _ _ _ _ _ _ _ _ _ _ _ _ _ _ _ _ _ _ _ _ _ _ _ _ _ _ _ _ _ _ _ _ _ _ _ _ _ _ _ _ _ _ _ _ _ _ _ _ _ _ _ _ _ _ _ _ _ _ _ _ _ _ _ _ _ _ _ _ _ _ _ _ _ _ _ _ _ _ _ _ _ _ _ _ _ _ _ _ _ _ _ _ _ _ _ _ _ _ _ _ _ _ _ _ _ _ _ _ _ _ _ _ _ _ _ _ _ _ _ _ _ _ _ _ _ _ _ _ _ _ _ _ _ _ _ _ _ _ _ _ _ _ _ _ _ _ _ _ _ _ _ _ _ _ _ _ _ _ _ _ _ _ _ _ _ _ _ _ _ _ _ _ _ _ _ _ _ _ _ _ _ _ _ _ _ _ _ _ _ _ _ _ _ _ _ _ _ _ _ _ _ _ _ _ _ _ _ _ _ _ _ _ _ _ _ _ _ _ _ ?_
                intros
                rename_i w30 hb30
                go_wp2_with fail
                go_ret
                exact ⟨rfl, e20.trans (hb30.mono e20.size)⟩
              · have hbad2 : (bad == 0) = false := by rw [beq_eq_false_iff_ne]; exact hbad
                go_wp2_with fail
                go_ret
                exact ⟨rfl, e20⟩
            · have h52 : (five == 0) = false := by rw [beq_eq_false_iff_ne]; exact h5
              clear P6
              by_cases hbad : bad = 0
              · subst hbad
                obtain ⟨o1, o2, o3, o4, o5⟩ := O1.out rfl
                have HV : Hid (∀ (i : Nat) (r : TRow), ts[i]? = some r → validT ⟨r.xs, r.h, r.e⟩ = true) := fun i r hr => List.all_eq_true.1 o1 _ (List.mem_of_getElem? (tars_at hr))
                have HB : Hid (∀ (i : Nat) (r : TRow), ts[i]? = some r → (∀ s, sumTo ⟨r.xs, r.h, r.e⟩ ga ma ga.length = some s → least ≤ s) ∧ (best = (i : Int) → sumTo ⟨r.xs, r.h, r.e⟩ ga ma ga.length = some least)) := fun i r hr => o5 i _ (tars_at hr)
                have hat := nums_at o4
                have HG := hid hat.1
                have HM := hid hat.2
                have lg1 : ga.length ≤ ma.length := by omega
                have lg2 : ma.length ≤ ga.length := by omega
                clear o1 o2 o4 o5 hat O1 O2
                go_wp2_with fail
                refine loads2_any A c ts Ag cg ga Am cm ma best least w20 (by assumption) (by assumption) (by assumption) (by assumption) lg1 lg2 HV HB HG HM X20 G20 M20 _ _ _ _ _ _ _ _ _ _ _ _ _ _ _ _ _ _ _ _ _ _ _ _ _ _ _ _ _ _ _ _ _ _ _ _ _ _ _ _ _ _ _ _ _ _ _ _ _ _ _ _ _ _ _ _ _ _ _ _ _ _ _ _ _ _ _ _ _ _ _ _ _ _ _ _ _ _ _ _ _ _ _ _ _ _ _ _ _ _ _ _ _ _ _ _ _ _ _ _ _ _ _ _ _ _ _ _ _ _ _ _ _ _ _ _ _ _ _ _ _ _ _ _ _ _ _ _ _ _ _ _ _ _ _ _ _ _ _ _ _ _ _ _ _ _ _ _ _ _ _ _ _ _ _ _ _ _ _ _ _ _ _ _ _ _ _ _ _ _ _ _ _ _ _ _ _ _ _ _ _ _ _ _ _ _ _ _ _ _ _ _ _ _ _ _ _ _ _ _ _ _ _ _ _ _ _ _ _ _ _ _ _ _ _ _ _ _ _ _ _ _ _ _ _ _ _ _ _ _ _ _ _ _ _ _ _ _ _ _ _ _ _ _ _ _ _ _ _ _ _ _ _ _ _ _ _ _ _ _ _ _ ?_
                intros
                rename_i w30 hb30
                go_wp2_with fail
                go_ret
                exact ⟨rfl, e20.trans (hb30.mono e20.size)⟩
              · have hbad2 : (bad == 0) = false := by rw [beq_eq_false_iff_ne]; exact hbad
                go_wp2_with fail
                go_ret
                exact ⟨rfl, e20⟩
          · have hone2 : (one == 0) = false := by rw [beq_eq_false_iff_ne]; exact hone
            clear Y12 k0 k1 k2 lt6
            by_cases hbad : bad = 0
            · subst hbad
              obtain ⟨o1, o2, o3, o4, o5⟩ := O1.out rfl
              have HV : Hid (∀ (i : Nat) (r : TRow), ts[i]? = some r → validT ⟨r.xs, r.h, r.e⟩ = true) := fun i r hr => List.all_eq_true.1 o1 _ (List.mem_of_getElem? (tars_at hr))
              have HB : Hid (∀ (i : Nat) (r : TRow), ts[i]? = some r → (∀ s, sumTo ⟨r.xs, r.h, r.e⟩ ga ma ga.length = some s → least ≤ s) ∧ (best = (i : Int) → sumTo ⟨r.xs, r.h, r.e⟩ ga ma ga.length = some least)) := fun i r hr => o5 i _ (tars_at hr)
              have hat := nums_at o4
              have HG := hid hat.1
              have HM := hid hat.2
              have lg1 : ga.length ≤ ma.length := by omega
              have lg2 : ma.length ≤ ga.length := by omega
              clear o1 o2 o4 o5 hat O1 O2
              go_wp2_with fail
              refine loads2_any A c ts Ag cg ga Am cm ma best least w12 (by assumption) (by assumption) (by assumption) (by assumption) lg1 lg2 HV HB HG HM X12 G12 M12 _ _ _ _ _ _ _ _ _ _ _ _ _ _ _ _ _ _ _ _ _ _ _ _ _ _ _ _ _ _ _ _ _ _ _ _ _ _ _ _ _ _ _ _ _ _ _ _ _ _ _ _ _ _ _ _ _ _ _ _ _ _ _ _ _ _ _ _ _ _ _ _ _ _ _ _ _ _ _ _ _ _ _ _ _ _ _ _ _ _ _ _ _ _ _ _ _ _ _ _ _ _ _ _ _ _ _ _ _ _ _ _ _ _ _ _ _ _ _ _ _ _ _ _ _ _ _ _ _ _ _ _ _ _ _ _ _ _ _ _ _ _ _ _ _ _ _ _ _ _ _ _ _ _ _ _ _ _ _ _ _ _ _ _ _ _ _ _ _ _ _ _ _ _ _ _ _ _ _ _ _ _ _ _ _ _ _ _ _ _ _ _ _ _ _ _ _ _ _ _ _ _ _ _ _ _ _ _ _ _ _ _ _ _ _ _ _ _ _ _ _ _ _ _ _ _ _ _ _ _ _ _ _ _ _ _ _ _ _ _ _ _ _ _ _ _ _ _ _ _ _ _ _ _ _ _ _ _ _ _ _ _ ?_
              intros
              rename_i w30 hb30
              go_wp2_with fail
              go_ret
              exact ⟨rfl, e12.trans (hb30.mono e12.size)⟩
            · have hbad2 : (bad == 0) = false := by rw [beq_eq_false_iff_ne]; exact hbad
              go_wp2_with fail
              go_ret
              exact ⟨rfl, e12⟩
    · have htwo2 : (two == 0) = false := by rw [beq_eq_false_iff_ne]; exact htwo
      clear O3 Z11 V11 U11 j0 j1 j2 i0 i1 i2 x0 x1 x2 lt8 lt9 lt10
      by_cases hone : one = 0
      · subst hone
        obtain ⟨⟨p1, p2⟩, p3⟩ := O2.out rfl
        obtain ⟨Z, hZ⟩ : ∃ Z, Z = priceF xs h1 e1 m1 g1 false := ⟨_, rfl⟩
        have cP := fun W hx => specPriceFor_any A1 xs.length c1 xs h1 e1 m1 g1 false W W.heap.size (Nat.le_refl _) (by omega) hx
        rw [← hZ] at cP p3
        obtain ⟨whole, five⟩ := Z
        simp only [pairI] at cP
        have p4 : ¬ parts < 1 := by omega
        have p5 : ¬ 10 < parts := by omega
        have p6 : five = 0 → cost ≤ whole := fun h => p3 whole (by rw [h])
        have P6 := hid p6
        clear p3 p6 hZ
        go_wp2_with fail
        refine (cP _ Y11.out).mono ?_
        rintro r w20 ⟨rfl, b20⟩
        have e20 := e11.trans (b20.mono e11.size)
        have X20 := hid (X11.out.lift b20)
        have G20 := hid (G11.out.lift b20)
        have M20 := hid (M11.out.lift b20)
        clear X11 G11 M11 Y11 b20 e11 cP k0 k1 k2 lt6
        by_cases h5 : five = 0
        · subst h5
          have p7 : ¬ whole < cost := by have := P6.out rfl; omega
          clear P6
          by_cases hbad : bad = 0
          · subst hbad
            obtain ⟨o1, o2, o3, o4, o5⟩ := O1.out rfl
            have HV : Hid (∀ (i : Nat) (r : TRow), ts[i]? = some r → validT ⟨r.xs, r.h, r.e⟩ = true) := fun i r hr => List.all_eq_true.1 o1 _ (List.mem_of_getElem? (tars_at hr))
            have HB : Hid (∀ (i : Nat) (r : TRow), ts[i]? = some r → (∀ s, sumTo ⟨r.xs, r.h, r.e⟩ ga ma ga.length = some s → least ≤ s) ∧ (best = (i : Int) → sumTo ⟨r.xs, r.h, r.e⟩ ga ma ga.length = some least)) := fun i r hr => o5 i _ (tars_at hr)
            have hat := nums_at o4
            have HG := hid hat.1
            have HM := hid hat.2
            have lg1 : ga.length ≤ ma.length := by omega
            have lg2 : ma.length ≤ ga.length := by omega
            clear o1 o2 o4 o5 hat O1 O2
            go_wp2_with fail
            refine loads2_any A c ts Ag cg ga Am cm ma best least w20 (by assumption) (by assumption) (by assumption) (by assumption) lg1 lg2 HV HB HG HM X20 G20 M20 _ _ _ _ _ _ _ _ _ _ _ _ _ _ _ _ _ _ _ _ _ _ _ _ _ _ _ _ _ _ _ _ _ _ _ _ _ _ _ _ _ _ _ _ _ _ _ _ _ _ _ _ _ _ _ _ _ _ _ _ _ _ _ _ _ _ _ _ _ _ _ _ _ _ _ _ _ _ _ _ _ _ _ _ _ _ _ _ _ _ _ _ _ _ _ _ _ _ _ _ _ _ _ _ _ _ _ _ _ _ _ _ _ _ _ _ _ _ _ _ _ _ _ _ _ _ _ _ _ _ _ _ _ _ _ _ _ _ _ _ _ _ _ _ _ _ _ _ _ _ _ _ _ _ _ _ _ _ _ _ _ _ _ _ _ _ _ _ _ _ _ _ _ _ _ _ _ _ _ _ _ _ _ _ _ _ _ _ _ _ _ _ _ _ _ _ _ _ _ _ _ _ _ _ _ _ _ _ _ _ _ _ _ _ _ _ _ _ _ _ _ _ _ _ _ _ _ _ _ _ _ _ _ _ _ _ _ _ _ _ _ _ _ _ _ _ _ _ _ _ _ _ _ _ _ _ _ _ _ _ _ _ ?_
            intros
            rename_i w30 hb30
            go_wp2_with fail
            go_ret
            exact ⟨rfl, e20.trans (hb30.mono e20.size)⟩
          · have hbad2 : (bad == 0) = false := by rw [beq_eq_false_iff_ne]; exact hbad
            go_wp2_with fail
            go_ret
            exact ⟨rfl, e20⟩
        · have h52 : (five == 0) = false := by rw [beq_eq_false_iff_ne]; exact h5
          clear P6
          by_cases hbad : bad = 0
          · subst hbad
            obtain ⟨o1, o2, o3, o4, o5⟩ := O1.out rfl
            have HV : Hid (∀ (i : Nat) (r : TRow), ts[i]? = some r → validT ⟨r.xs, r.h, r.e⟩ = true) := fun i r hr => List.all_eq_true.1 o1 _ (List.mem_of_getElem? (tars_at hr))
            have HB : Hid (∀ (i : Nat) (r : TRow), ts[i]? = some r → (∀ s, sumTo ⟨r.xs, r.h, r.e⟩ ga ma ga.length = some s → least ≤ s) ∧ (best = (i : Int) → sumTo ⟨r.xs, r.h, r.e⟩ ga ma ga.length = some least)) := fun i r hr => o5 i _ (tars_at hr)
            have hat := nums_at o4
            have HG := hid hat.1
            have HM := hid hat.2
            have lg1 : ga.length ≤ ma.length := by omega
            have lg2 : ma.length ≤ ga.length := by omega
            clear o1 o2 o4 o5 hat O1 O2
            go_wp2_with fail
            refine loads2_any A c ts Ag cg ga Am cm ma best least w20 (by assumption) (by assumption) (by assumption) (by assumption) lg1 lg2 HV HB HG HM X20 G20 M20 _ _ _ _ _ _ _ _ _ _ _ _ _ _ _ _ _ _ _ _ _ _ _ _ _ _ _ _ _ _ _ _ _ _ _ _ _ _ _ _ _ _ _ _ _ _ _ _ _ _ _ _ _ _ _ _ _ _ _ _ _ _ _ _ _ _ _ _ _ _ _ _ _ _ _ _ _ _ _ _ _ _ _ _ _ _ _ _ _ _ _ _ _ _ _ _ _ _ _ _ _ _ _ _ _ _ _ _ _ _ _ _ _ _ _ _ _ _ _ _ _ _ _ _ _ _ _ _ _ _ _ _ _ _ _ _ _ _ _ _ _ _ _ _ _ _ _ _ _ _ _ _ _ _ _ _ _ _ _ _ _ _ _ _ _ _ _ _ _ _ _ _ _ _ _ _ _ _ _ _ _ _ _ _ _ _ _ _ _ _ _ _ _ _ _ _ _ _ _ _ _ _ _ _ _ _ _ _ _ _ _ _ _ _ _ _ _ _ _ _ _ _ _ _ _ _ _ _ _ _ _ _ _ _ _ _ _ _ _ _ _ _ _ _ _ _ _ _ _ _ _ _ _ _ _ _ _ _ _ _ _ _ ?_
            intros
            rename_i w30 hb30
            go_wp2_with fail
            go_ret
            exact ⟨rfl, e20.trans (hb30.mono e20.size)⟩
          · have hbad2 : (bad == 0) = false := by rw [beq_eq_false_iff_ne]; exact hbad
            go_wp2_with fail
            go_ret
            exact ⟨rfl, e20⟩
      · have hone2 : (one == 0) = false := by rw [beq_eq_false_iff_ne]; exact hone
        clear Y11 k0 k1 k2 lt6
        by_cases hbad : bad = 0
        · subst hbad
          obtain ⟨o1, o2, o3, o4, o5⟩ := O1.out rfl
          have HV : Hid (∀ (i : Nat) (r : TRow), ts[i]? = some r → validT ⟨r.xs, r.h, r.e⟩ = true) := fun i r hr => List.all_eq_true.1 o1 _ (List.mem_of_getElem? (tars_at hr))
          have HB : Hid (∀ (i : Nat) (r : TRow), ts[i]? = some r → (∀ s, sumTo ⟨r.xs, r.h, r.e⟩ ga ma ga.length = some s → least ≤ s) ∧ (best = (i : Int) → sumTo ⟨r.xs, r.h, r.e⟩ ga ma ga.length = some least)) := fun i r hr => o5 i _ (tars_at hr)
          have hat := nums_at o4
          have HG := hid hat.1
          have HM := hid hat.2
          have lg1 : ga.length ≤ ma.length := by omega
          have lg2 : ma.length ≤ ga.length := by omega
          clear o1 o2 o4 o5 hat O1 O2
          go_wp2_with fail
          refine loads2_any A c ts Ag cg ga Am cm ma best least w11 (by assumption) (by assumption) (by assumption) (by assumption) lg1 lg2 HV HB HG HM X11 G11 M11 _ _ _ _ _ _ _ _ _ _ _ _ _ _ _ _ _ _ _ _ _ _ _ _ _ _ _ _ _ _ _ _ _ _ _ _ _ _ _ _ _ _ _ _ _ _ _ _ _ _ _ _ _ _ _ _ _ _ _ _ _ _ _ _ _ _ _ _ _ _ _ _ _ _ _ _ _ _ _ _ _ _ _ _ _ _ _ _ _ _ _ _ _ _ _ _ _ _ _ _ _ _ _ _ _ _ _ _ _ _ _ _ _ _ _ _ _ _ _ _ _ _ _ _ _ _ _ _ _ _ _ _ _ _ _ _ _ _ _ _ _ _ _ _ _ _ _ _ _ _ _ _ _ _ _ _ _ _ _ _ _ _ _ _ _ _ _ _ _ _ _ _ _ _ _ _ _ _ _ _ _ _ _ _ _ _ _ _ _ _ _ _ _ _ _ _ _ _ _ _ _ _ _ _ _ _ _ _ _ _ _ _ _ _ _ _ _ _ _ _ _ _ _ _ _ _ _ _ _ _ _ _ _ _ _ _ _ _ _ _ _ _ _ _ _ _ _ _ _ _ _ _ _ _ _ _ _ _ _ _ _ _ ?_
          intros
          rename_i w30 hb30
          go_wp2_with fail
          go_ret
          exact ⟨rfl, e11.trans (hb30.mono e11.size)⟩
        · have hbad2 : (bad == 0) = false := by rw [beq_eq_false_iff_ne]; exact hbad
          go_wp2_with fail
          go_ret
          exact ⟨rfl, e11⟩
end Go.Proofs.Ytbgpdaclaknapaa
