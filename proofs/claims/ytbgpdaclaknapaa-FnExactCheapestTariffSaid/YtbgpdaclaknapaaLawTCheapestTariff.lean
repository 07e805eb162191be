/-
  The statement on CheapestTariff, walked. No condition.
-/
import Derived.Test.YtbgpdaclaknapaaTCheapI
import Derived.Test.YtbgpdaclaknapaaTCheapS
namespace Go.Proofs.Ytbgpdaclaknapaa
open Go.RowKit
set_option maxHeartbeats 400000

theorem szStep_sm {n : Nat} (h : n ≤ 1048576) : ¬ szStep 1048576 n < 0 := by unfold szStep; split <;> omega
theorem szStep_bg {n : Nat} (h : ¬ n ≤ 1048576) : szStep 1048576 n < 0 := by unfold szStep; split <;> omega
set_option maxHeartbeats 4000000 in
set_option maxRecDepth 100000 in
theorem FnExactCheapestTariff_walk (A : Option Addr) (n c : Nat) (ts : List TRow) (A1 : Option Addr) (m1 c1 : Nat) (gs : List Int) (A2 : Option Addr) (m2 c2 : Nat) (ms : List Int) (w : World) (hn : n ≤ 9223372036854775807) (hm1 : m1 ≤ 9223372036854775807) (hm2 : m2 ≤ 9223372036854775807)
    (hx : SlT w w.heap.size A n ts) (hr : ∀ r ∈ ts, r.n ≤ 9223372036854775807) (hy : Sl w w.heap.size 1 encI A1 m1 gs) (hz : Sl w w.heap.size 1 encI A2 m2 ms) :
    Calls Try.prog 4 #[.slice A n c, .slice A1 m1 c1, .slice A2 m2 c2] w fun r w' => r = .returned (.bool true) ∧ Below w.heap.size w w' := by
  have hsz := szTariffS_any A n c ts 1048576 w w.heap.size (Nat.le_refl _) hn (by omega) (by omega) hx hr
  by_cases k1 : 1048576 < m1
  · clear hsz hx hy hz hr
    go_enter Try.func4, Try.ntmps4
    go_wp2_with fail
    go_ret
    exact ⟨rfl, Below.refl _ _⟩
  · by_cases k2 : 1048576 < m2
    · clear hsz hx hy hz hr
      go_enter Try.func4, Try.ntmps4
      go_wp2_with fail
      go_ret
      exact ⟨rfl, Below.refl _ _⟩
    · by_cases hb : n + totT ts ≤ 1048576
      · have h0 := szStep_sm hb
        generalize szStep 1048576 (n + totT ts) = left at hsz h0
        have HS : ∀ (A : Option Addr) (c : Nat) (ts' : List TRow) (A1 : Option Addr) (c1 : Nat) (A2 : Option Addr) (c2 : Nat) (w : World) (B : Nat), B ≤ w.heap.size → totT ts' = totT ts → tars ts' = tars ts → SlT w B A n ts' → Sl w B 1 encI A1 m1 gs → Sl w B 1 encI A2 m2 ms → Calls Try.prog 12 #[.slice A n c, .slice A1 m1 c1, .slice A2 m2 c2] w fun r w' => r = .returned (tripI (cheapT (tars ts) gs ms)) ∧ Below w.heap.size w w' := fun A c ts' A1 c1 A2 c2 w B h1 h2 h3 h4 h5 h6 => by
          have := specCheapestTariff_any A n c ts' A1 m1 c1 gs A2 m2 c2 ms w B h1 (by omega) (by omega) (by omega) h4 h5 h6
          rwa [h3] at this
        have HI : ∀ (A : Option Addr) (c : Nat) (ts' : List TRow) (A1 : Option Addr) (c1 : Nat) (A2 : Option Addr) (c2 : Nat) (w : World) (B : Nat), B ≤ w.heap.size → totT ts' = totT ts → tars ts' = tars ts → SlT w B A n ts' → Sl w B 1 encI A1 m1 gs → Sl w B 1 encI A2 m2 ms → Calls Try.prog 15 #[.slice A n c, .slice A1 m1 c1, .slice A2 m2 c2] w fun r w' => r = .returned (tripI (cheapT (tars ts) gs ms)) ∧ Below w.heap.size w w' := fun A c ts' A1 c1 A2 c2 w B h1 h2 h3 h4 h5 h6 => by
          have := implCheapestTariff_any A n c ts' A1 m1 c1 gs A2 m2 c2 ms w B h1 (by omega) (by omega) (by omega) h4 h5 h6
          rwa [h3] at this
        generalize cheapT (tars ts) gs ms = R at HS HI
        obtain ⟨r1, r2, r3⟩ := R
        simp only [tripI] at HS HI
        have toT := fun W (hW : Below w.heap.size w W) => toTariffS_any A n c ts W w.heap.size hW.size (by omega) (hx.below hW)
        have toG := fun W (hW : Below w.heap.size w W) => toInt64S_any A1 m1 c1 gs W w.heap.size hW.size (by omega) (hy.below hW)
        have toM := fun W (hW : Below w.heap.size w W) => toInt64S_any A2 m2 c2 ms W w.heap.size hW.size (by omega) (hz.below hW)
        clear hx hy hz hr
        go_enter Try.func4, Try.ntmps4
        go_wp2_with fail
        refine hsz.mono ?_
        rintro r w0 ⟨rfl, b0⟩
        clear hsz
        go_wp2_with fail
        refine (toT _ b0).mono ?_
        rintro r w1 ⟨g1, ts1, rfl, x1, et1, en1, b1⟩
        have Et1 := hid et1
        have e1 := b0.trans (b1.mono b0.size)
        clear et1
        go_wp2_with fail
        refine (toG _ e1).mono ?_
        rintro r w2 ⟨g2, rfl, x2, b2⟩
        have e2 := e1.trans (b2.mono e1.size)
        go_wp2_with fail
        refine (toM _ e2).mono ?_
        rintro r w3 ⟨g3, rfl, x3, b3⟩
        have e3 := e2.trans (b3.mono e2.size)
        have X1 := hid ((((x1.below b2).more b2.size).below b3).more b3.size)
        have X2 := hid (own_sl encI_len (by omega) (own_below x2 b3))
        have X3 := hid (own_sl encI_len (by omega) x3)
        have EN1 := hid en1
        clear x1 x2 x3 b1 b2 b3 e1 e2 b0 en1
        go_wp2_with fail
        refine (HS _ _ ts1 _ _ _ _ _ _ (Nat.le_refl _) EN1.out Et1.out X1.out X2.out X3.out).mono ?_
        rintro r w4 ⟨rfl, b4⟩
        have e4 := e3.trans (b4.mono e3.size)
        clear X1 X2 X3 EN1 Et1 e3 b4 HS
        go_wp2_with fail
        refine (toT _ e4).mono ?_
        rintro r w5 ⟨g5, ts5, rfl, x5, et5, en5, b5⟩
        have Et5 := hid et5
        have e5 := e4.trans (b5.mono e4.size)
        clear et5
        go_wp2_with fail
        refine (toG _ e5).mono ?_
        rintro r w6 ⟨g6, rfl, x6, b6⟩
        have e6 := e5.trans (b6.mono e5.size)
        go_wp2_with fail
        refine (toM _ e6).mono ?_
        rintro r w7 ⟨g7, rfl, x7, b7⟩
        have e7 := e6.trans (b7.mono e6.size)
        have X5 := hid ((((x5.below b6).more b6.size).below b7).more b7.size)
        have X6 := hid (own_sl encI_len (by omega) (own_below x6 b7))
        have X7 := hid (own_sl encI_len (by omega) x7)
        have EN5 := hid en5
        clear x5 x6 x7 b5 b6 b7 e5 e6 e4 en5
        go_wp2_with fail
        refine (HI _ _ ts5 _ _ _ _ _ _ (Nat.le_refl _) EN5.out Et5.out X5.out X6.out X7.out).mono ?_
        rintro r w8 ⟨rfl, b8⟩
        have e8 := e7.trans (b8.mono e7.size)
        have Y5 := hid ((X5.out.below b8).more b8.size)
        have Y6 := hid ((X6.out.below b8).more b8.size)
        have Y7 := hid ((X7.out.below b8).more b8.size)
        clear X5 X6 X7 HI b8 e7
        go_wp2_with fail
        refine (toT _ e8).mono ?_
        rintro r w9 ⟨g9, ts9, rfl, x9, et9, en9, b9⟩
        have e9 := e8.trans (b9.mono e8.size)
        have heq := eqTariffS_yes (some ⟨g5, 0, none⟩) n n (some ⟨g9, 0, none⟩) n n w9 w9.heap.size (Nat.le_refl _) ts5 ts9 (by have := EN5.out; omega) ((Y5.out.below b9).more b9.size) x9 (et9.trans Et5.out.symm)
        replace Y6 := hid ((Y6.out.below b9).more b9.size)
        replace Y7 := hid ((Y7.out.below b9).more b9.size)
        clear Y5 x9 et9 en9 b9 e8 EN5 Et5
        go_wp2_with fail
        refine heq.mono ?_
        rintro r w10 ⟨rfl, b10⟩
        have e10 := e9.trans (b10.mono e9.size)
        replace Y6 := hid ((Y6.out.below b10).more b10.size)
        replace Y7 := hid ((Y7.out.below b10).more b10.size)
        clear heq b10 e9
        go_wp2_with fail
        refine (toG _ e10).mono ?_
        rintro r w11 ⟨g11, rfl, x11, b11⟩
        have e11 := e10.trans (b11.mono e10.size)
        have heq := eqInt64S_yes (some ⟨g6, 0, none⟩) m1 m1 (some ⟨g11, 0, none⟩) m1 m1 w11 w11.heap.size (Nat.le_refl _) gs (by omega) ((Y6.out.below b11).more b11.size) (own_sl encI_len (by omega) x11)
        replace Y7 := hid ((Y7.out.below b11).more b11.size)
        clear Y6 x11 b11 e10
        go_wp2_with fail
        refine heq.mono ?_
        rintro r w12 ⟨rfl, b12⟩
        have e12 := e11.trans (b12.mono e11.size)
        replace Y7 := hid ((Y7.out.below b12).more b12.size)
        clear heq b12 e11
        go_wp2_with fail
        refine (toM _ e12).mono ?_
        rintro r w13 ⟨g13, rfl, x13, b13⟩
        have e13 := e12.trans (b13.mono e12.size)
        have heq := eqInt64S_yes (some ⟨g7, 0, none⟩) m2 m2 (some ⟨g13, 0, none⟩) m2 m2 w13 w13.heap.size (Nat.le_refl _) ms (by omega) ((Y7.out.below b13).more b13.size) (own_sl encI_len (by omega) x13)
        clear Y7 x13 b13 e12
        go_wp2_with fail
        refine heq.mono ?_
        rintro r w14 ⟨rfl, b14⟩
        have e14 := e13.trans (b14.mono e13.size)
        clear heq b14 e13
        go_wp2_with fail
        go_ret
        exact ⟨rfl, e14⟩
      · have h0 := szStep_bg hb
        generalize szStep 1048576 (n + totT ts) = left at hsz h0
        clear hx hy hz hr
        go_enter Try.func4, Try.ntmps4
        go_wp2_with fail
        refine hsz.mono ?_
        rintro r w0 ⟨rfl, b0⟩
        clear hsz
        go_wp2_with fail
        go_ret
        exact ⟨rfl, b0⟩
end Go.Proofs.Ytbgpdaclaknapaa
