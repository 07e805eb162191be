/-
  The statement on trees within a limit, walked. No condition.
-/
import Derived.Test.YtfbgglhjlbdfiaaLawGFnTrees
namespace Go.Proofs.Ytfbgglhjlbdfiaa
open Go.RowKit
set_option maxHeartbeats 400000

theorem all_le_at {xs : List Int} {d : Int} (h : ∀ x ∈ xs, x ≤ d) {i : Nat} {z : Int} (hz : xs[i]? = some z) : z ≤ d := h z (List.mem_of_getElem? hz)
set_option maxHeartbeats 4000000 in
set_option maxRecDepth 100000 in
theorem FnTreesWithin_walk (v u : Value) (w : World) (hv : Bytes w w.heap.size 9223372036854775807 v) (hu : Bytes w w.heap.size 9223372036854775807 u) :
    Calls Try.prog 4 #[v, u] w fun r w' => r = .returned (.bool true) ∧ Below w.heap.size w w' := by
  obtain ⟨A1, n1, c1, bs1, rfl, hn1, hbx1, hbz1⟩ := hv
  obtain ⟨A2, n2, c2, bs2, rfl, hn2, hbx2, hbz2⟩ := hu
  have hlong := fun W => a2Long_any A1 n1 c1 A2 n2 c2 W hn1 hn2
  by_cases h3 : 3000 < n1 ∨ 3000 < n2
  · have e : (decide (3000 < n1) || decide (3000 < n2)) = true := by simpa using h3
    rw [e] at hlong
    clear hbx1 hbz1 hbx2 hbz2 h3 e
    go_enter Try.func4, Try.ntmps4
    go_wp2_with fail
    refine (hlong _).mono ?_
    rintro r w1 ⟨rfl, e⟩
    replace e := e.symm
    subst e
    go_wp2_with fail
    go_ret
    exact ⟨rfl, Below.refl _ _⟩
  · have e : (decide (3000 < n1) || decide (3000 < n2)) = false := by simp; omega
    rw [e] at hlong
    have hv : Bytes w w.heap.size 5000 (.slice A1 n1 c1) := ⟨A1, n1, c1, bs1, rfl, by omega, hbx1, hbz1⟩
    have hu : Bytes w w.heap.size 5000 (.slice A2 n2 c2) := ⟨A2, n2, c2, bs2, rfl, by omega, hbx2, hbz2⟩
    have hc := A2Costs_any _ w hv
    have HU := hid hu
    have HB2 := hid (And.intro hbx2 hbz2)
    clear hbx1 hbz1 hbx2 hbz2 h3 e hv hu
    go_enter Try.func4, Try.ntmps4
    go_wp2_with fail
    refine (hlong _).mono ?_
    rintro r w1 ⟨rfl, e⟩
    replace e := e.symm
    subst e
    go_wp2_with fail
    refine hc.mono ?_
    rintro r w1 ⟨A, c, rs, rfl, l2, l5, hV, hT, hX, b1⟩
    clear hc hlong
    have hd := A2Demands_any (.slice A2 n2 c2) rs.length (by omega) (by omega) w1 ((HU.out.below b1).more b1.size)
    clear HU
    go_wp2_with fail
    refine hd.mono ?_
    rintro r w3 ⟨Ad, cd, ds, rfl, hdl, hD, hO, b3⟩
    clear hd
    have b03 : Below w.heap.size w w3 := b1.trans (b3.mono b1.size)
    have HX := hid ((hX.out.below b3).more b3.size)
    have HDs := hid (own_sl encI_len (by omega) hO.out)
    have hat := a2At_any A2 n2 c2 bs2 20 40 w3 w.heap.size hn2 (by omega) (by omega) (HB2.out.1.below b03) HB2.out.2
    have hlc : (cont rs).length = rs.length := cont_len rs
    have hdem : demOk (cont rs) ds = true := by
      simp only [demOk, Bool.and_eq_true, beq_iff_eq, List.all_eq_true]
      refine ⟨by omega, fun x hx => ?_⟩
      obtain ⟨j, hj⟩ := List.mem_iff_getElem?.1 hx
      have := hD.out j x hj
      simp [inR]; omega
    have B03 := hid b03
    clear HB2 hX hO hD b1 b3 b03
    go_wp2_with fail
    refine hat.mono ?_
    rintro r w4 ⟨most, rfl, m0, m1, e⟩
    replace e := e.symm
    subst e
    clear hat
    obtain ⟨bc, lc, hcf, hbc⟩ := cheap_form hV.out
    have cW := fun m W (hW : Below w3.heap.size w3 W) => implTreeWithin_any A rs.length c rs Ad ds.length cd ds m W w3.heap.size hW.size (by omega) (by omega) (HX.out.below hW) (HDs.out.below hW)
    have cW1 := cW most
    have cW2 := cW (most + 5)
    have cC := fun W (hW : Below w3.heap.size w3 W) => implCheapestTree_any A rs.length c rs W w3.heap.size hW.size (by omega) (HX.out.below hW)
    have cS := fun W (hW : Below w3.heap.size w3 W) => specCheapestTree_any A rs.length c rs W w3.heap.size hW.size (by omega) (HX.out.below hW)
    have cV := fun W (hW : Below w3.heap.size w3 W) => specTreeWithin_any A rs.length c rs Ad ds.length cd ds most W w3.heap.size hW.size (by omega) (by omega) (HX.out.below hW) (HDs.out.below hW)
    have cL := fun W b A' m' c' B' (hW : Below w3.heap.size w3 W) (hB1 : w3.heap.size ≤ B') (hB : B' ≤ W.heap.size) (hm : m' ≤ 2000000) hy => implLoadsOf_any A rs.length c rs A' m' c' b Ad ds.length cd ds W B' hB (by omega) hm (by omega) ((HX.out.below hW).more hB1) hy ((HDs.out.below hW).more hB1)
    have cB := fun W b A' m' c' B' (hW : Below w3.heap.size w3 W) (hB1 : w3.heap.size ≤ B') (hB : B' ≤ W.heap.size) (hm : m' ≤ 2000000) hy => implTreeCost_any A rs.length c rs A' m' c' b W B' hB (by omega) hm ((HX.out.below hW).more hB1) hy
    have cD := fun W b A' m' c' B' (hW : Below w3.heap.size w3 W) (hB1 : w3.heap.size ≤ B') (hB : B' ≤ W.heap.size) (hm : m' ≤ 2000000) hy => implDepthsOf_any A rs.length c rs A' m' c' b W B' hB (by omega) hm ((HX.out.below hW).more hB1) hy
    have cH := fun d W (hW : Below w3.heap.size w3 W) => implShallowTree_any A rs.length c rs d W w3.heap.size hW.size (by omega) (HX.out.below hW)
    rw [hcf] at cC cS
    unfold ListPost2 at cC cS
    simp only at cC cS
    have hcl := hbc.bnd hV.out
    have HVV := hid hV.out
    have HBC := hid hbc
    have HDE := hid hdem
    have CL := hid cL
    have CB := hid cB
    have CD := hid cD
    have CH := hid cH
    clear cW cL cB cD cH hcf hbc hdem hV
    have two := within_form HVV.out HDE.out (most := most + 5) (by omega) (by omega)
    have one := within_form HVV.out HDE.out m0 (by omega : most ≤ 6000)
    rcases one with ⟨q1, h1⟩ | ⟨b, l, q1, h1⟩
    · rcases two with ⟨q2, h2⟩ | ⟨b', l', q2, h2⟩
      · rw [q1] at cW1 cV
        rw [q2] at cW2
        unfold ListPost2 at cW1 cW2 cV
        simp only at cW1 cW2 cV
        clear q1 q2 h1 h2
        go_wp2_with fail
        refine (cW1 _ (Below.refl _ _)).mono ?_
        rintro r w4 ⟨Aa, na, ca, rfl, oa, b4⟩
        go_wp2_with fail
        refine (cW2 _ b4).mono ?_
        rintro r w5 ⟨Ab, nb, cb, rfl, ob, b5⟩
        have e5 := b4.trans (b5.mono b4.size)
        go_wp2_with fail
        refine (cC _ e5).mono ?_
        rintro r w6 ⟨Ac, nc, cc, rfl, oc, b6⟩
        have e6 := e5.trans (b6.mono e5.size)
        go_wp2_with fail
        refine (cS _ e6).mono ?_
        rintro r w7 ⟨Ae, ne, ce, rfl, oe, b7⟩
        have e7 := e6.trans (b7.mono e6.size)
        go_wp2_with fail
        refine (cV _ e7).mono ?_
        rintro r w8 ⟨Af, nf, cf, rfl, of, b8⟩
        have e8 := e7.trans (b8.mono e7.size)
        skip
        clear cW1 cW2 cC cS cV oa ob oc oe of b4 b5 b6 b7 b8 e5 e6 e7
        go_wp2_with fail
        go_loopw [28, 29] (fun la dp wl => ∃ (k : Nat) (q : Int), k ≤ 6 ∧ dp = .int .i64 ((k : Int) + 1) ∧ la = .int .i64 q ∧ Hid ((k = 0 ∧ q = -1) ∨ ∃ b, Best (cont rs) (okD (k : Int)) b q) ∧ -1 ≤ q ∧ Below w3.heap.size w3 wl) (fun _ dp _ => (7 - intOf dp).toNat)
        case atStart => exact ⟨0, -1, by omega, rfl, rfl, hid (.inl ⟨rfl, rfl⟩), by omega, e8⟩
        case round =>
          obtain ⟨k, q, hk, rfl, rfl, hq, q0, hb⟩ := hrel
          by_cases hk6 : k < 6
          · obtain ⟨bt, lt, hsf, hbt⟩ := shallow_form (d := (k : Int) + 1) HVV.out (by omega) (by omega)
            have cS1 := CH.out ((k : Int) + 1) wr hb
            rw [hsf] at cS1
            unfold ListPost2 at cS1
            simp only at cS1
            have hlt2 : ¬ lt < lc := by
              have := HBC.out.le hbt (okD_tree hbt.good).1
              omega
            have hlb := hbt.bnd HVV.out
            have hcode := hbt.code HVV.out (okD_tree hbt.good).1
            have hbl := hbt.len
            have DE := hid (fun (i : Nat) (z : Int) (hz : (depL bt)[i]? = some z) => all_le_at (okD_tree hbt.good).2 hz)
            have HQ : Hid ((k + 1 = 0 ∧ lt = -1) ∨ ∃ b, Best (cont rs) (okD ((k + 1 : Nat) : Int)) b lt) := .inr ⟨bt, by rw [show ((k + 1 : Nat) : Int) = (k : Int) + 1 by omega]; exact hbt⟩
            have hcase : q = -1 ∨ (0 ≤ q ∧ ¬ q < lt) := by
              rcases hq.out with ⟨_, h⟩ | ⟨b', h⟩
              · exact .inl h
              · have h2 := h.bnd HVV.out
                have := hbt.le h (okD_mk (okD_tree h.good).1 (fun x hx => by have := (okD_tree h.good).2 x hx; omega))
                exact .inr ⟨h2.1, by omega⟩
            clear hq hsf
            go_wp2_with fail
            refine cS1.mono ?_
            rintro r w10 ⟨At, nt, ct, rfl, ot, b10⟩
            obtain rfl := own_len encI_len (by omega) ot
            have e10 := hb.trans (b10.mono hb.size)
            have cD1 := CD.out w10 bt At bt.length ct w10.heap.size e10 e10.size (Nat.le_refl _) (by omega) (own_sl encI_len (by omega) ot)
            rw [depthsF, if_pos hcode] at cD1
            unfold ListPost at cD1
            simp only at cD1
            clear hcode hbt cS1
            go_wp2_with fail
            refine cD1.mono ?_
            rintro r w11 ⟨Ag, ng, cg, rfl, og, b11⟩
            obtain rfl : ng = bt.length := (own_len encI_len (by omega) og).trans (depL_len _)
            have SE := hid (own_sl encI_len (by omega) og)
            have E11 := hid (e10.trans (b11.mono e10.size))
            clear og ot b10 b11 e10 cD1 hb
            rcases hcase with rfl | ⟨q1, q2⟩
            · skip
              go_wp2_with fail
              go_loopw [35] (fun j wl => ∃ (i : Nat), i ≤ bt.length ∧ j = .int .i64 i ∧ Below w11.heap.size w11 wl) (fun j _ => bt.length - (intOf j).toNat)
              case atStart => exact ⟨0, Nat.zero_le _, rfl, Below.refl _ _⟩
              case round =>
                obtain ⟨i, hi, rfl, hb2⟩ := hrel
                by_cases hin : i < bt.length
                · obtain ⟨d, be, oe, Hd, rfl, hbe, cd0⟩ := (SE.out.below hb2).int hin
                  have hdle := DE.out i d Hd.out
                  have nd : ¬ (k : Int) + 1 < d := by omega
                  have i0 : (0 : Int) ≤ (i : Int) := by omega
                  have i1 : (i : Int) < (bt.length : Int) := by omega
                  go_wp2_with fail
                  go_roundw
                  all_goals first | exact ⟨i + 1, by omega, by go_num, hb2⟩ | exact ⟨⟨i + 1, by omega, by go_num, hb2⟩, by simp [intOf]; omega⟩ | (simp [intOf]; omega)
                · have e13 := E11.out.trans (hb2.mono E11.out.size)
                  go_wp2_with fail
                  go_roundw
                  all_goals first | exact ⟨k + 1, lt, by omega, by go_num, rfl, HQ, by omega, e13⟩ | exact ⟨⟨k + 1, lt, by omega, by go_num, rfl, HQ, by omega, e13⟩, by simp [intOf]; omega⟩ | (simp [intOf]; omega)
            · skip
              go_wp2_with fail
              go_loopw [35] (fun j wl => ∃ (i : Nat), i ≤ bt.length ∧ j = .int .i64 i ∧ Below w11.heap.size w11 wl) (fun j _ => bt.length - (intOf j).toNat)
              case atStart => exact ⟨0, Nat.zero_le _, rfl, Below.refl _ _⟩
              case round =>
                obtain ⟨i, hi, rfl, hb2⟩ := hrel
                by_cases hin : i < bt.length
                · obtain ⟨d, be, oe, Hd, rfl, hbe, cd0⟩ := (SE.out.below hb2).int hin
                  have hdle := DE.out i d Hd.out
                  have nd : ¬ (k : Int) + 1 < d := by omega
                  have i0 : (0 : Int) ≤ (i : Int) := by omega
                  have i1 : (i : Int) < (bt.length : Int) := by omega
                  go_wp2_with fail
                  go_roundw
                  all_goals first | exact ⟨i + 1, by omega, by go_num, hb2⟩ | exact ⟨⟨i + 1, by omega, by go_num, hb2⟩, by simp [intOf]; omega⟩ | (simp [intOf]; omega)
                · have e13 := E11.out.trans (hb2.mono E11.out.size)
                  go_wp2_with fail
                  go_roundw
                  all_goals first | exact ⟨k + 1, lt, by omega, by go_num, rfl, HQ, by omega, e13⟩ | exact ⟨⟨k + 1, lt, by omega, by go_num, rfl, HQ, by omega, e13⟩, by simp [intOf]; omega⟩ | (simp [intOf]; omega)
          · have hk7 : k = 6 := by omega
            subst hk7
            obtain rfl : q = lc := by
              rcases hq.out with ⟨h, _⟩ | ⟨b', h⟩
              · omega
              · have h1 := HBC.out.le h (okD_tree h.good).1
                have h2 := h.le HBC.out (okD_mk HBC.out.good (fun x hx => by have := depL_lt HVV.out HBC.out x hx; omega))
                omega
            clear hq
            go_wp2_with fail
            go_ret
            exact ⟨rfl, B03.out.trans (hb.mono B03.out.size)⟩
      · rw [q1] at cW1 cV
        rw [q2] at cW2
        unfold ListPost2 at cW1 cW2 cV
        simp only at cW1 cW2 cV
        have hll : ¬ l' < lc := by
          have := HBC.out.le h2 (okW_tree h2.good).1
          omega
        clear q1 q2 h1 h2
        go_wp2_with fail
        refine (cW1 _ (Below.refl _ _)).mono ?_
        rintro r w4 ⟨Aa, na, ca, rfl, oa, b4⟩
        go_wp2_with fail
        refine (cW2 _ b4).mono ?_
        rintro r w5 ⟨Ab, nb, cb, rfl, ob, b5⟩
        have e5 := b4.trans (b5.mono b4.size)
        go_wp2_with fail
        refine (cC _ e5).mono ?_
        rintro r w6 ⟨Ac, nc, cc, rfl, oc, b6⟩
        have e6 := e5.trans (b6.mono e5.size)
        go_wp2_with fail
        refine (cS _ e6).mono ?_
        rintro r w7 ⟨Ae, ne, ce, rfl, oe, b7⟩
        have e7 := e6.trans (b7.mono e6.size)
        go_wp2_with fail
        refine (cV _ e7).mono ?_
        rintro r w8 ⟨Af, nf, cf, rfl, of, b8⟩
        have e8 := e7.trans (b8.mono e7.size)
        skip
        clear cW1 cW2 cC cS cV oa ob oc oe of b4 b5 b6 b7 b8 e5 e6 e7
        go_wp2_with fail
        go_loopw [28, 29] (fun la dp wl => ∃ (k : Nat) (q : Int), k ≤ 6 ∧ dp = .int .i64 ((k : Int) + 1) ∧ la = .int .i64 q ∧ Hid ((k = 0 ∧ q = -1) ∨ ∃ b, Best (cont rs) (okD (k : Int)) b q) ∧ -1 ≤ q ∧ Below w3.heap.size w3 wl) (fun _ dp _ => (7 - intOf dp).toNat)
        case atStart => exact ⟨0, -1, by omega, rfl, rfl, hid (.inl ⟨rfl, rfl⟩), by omega, e8⟩
        case round =>
          obtain ⟨k, q, hk, rfl, rfl, hq, q0, hb⟩ := hrel
          by_cases hk6 : k < 6
          · obtain ⟨bt, lt, hsf, hbt⟩ := shallow_form (d := (k : Int) + 1) HVV.out (by omega) (by omega)
            have cS1 := CH.out ((k : Int) + 1) wr hb
            rw [hsf] at cS1
            unfold ListPost2 at cS1
            simp only at cS1
            have hlt2 : ¬ lt < lc := by
              have := HBC.out.le hbt (okD_tree hbt.good).1
              omega
            have hlb := hbt.bnd HVV.out
            have hcode := hbt.code HVV.out (okD_tree hbt.good).1
            have hbl := hbt.len
            have DE := hid (fun (i : Nat) (z : Int) (hz : (depL bt)[i]? = some z) => all_le_at (okD_tree hbt.good).2 hz)
            have HQ : Hid ((k + 1 = 0 ∧ lt = -1) ∨ ∃ b, Best (cont rs) (okD ((k + 1 : Nat) : Int)) b lt) := .inr ⟨bt, by rw [show ((k + 1 : Nat) : Int) = (k : Int) + 1 by omega]; exact hbt⟩
            have hcase : q = -1 ∨ (0 ≤ q ∧ ¬ q < lt) := by
              rcases hq.out with ⟨_, h⟩ | ⟨b', h⟩
              · exact .inl h
              · have h2 := h.bnd HVV.out
                have := hbt.le h (okD_mk (okD_tree h.good).1 (fun x hx => by have := (okD_tree h.good).2 x hx; omega))
                exact .inr ⟨h2.1, by omega⟩
            clear hq hsf
            go_wp2_with fail
            refine cS1.mono ?_
            rintro r w10 ⟨At, nt, ct, rfl, ot, b10⟩
            obtain rfl := own_len encI_len (by omega) ot
            have e10 := hb.trans (b10.mono hb.size)
            have cD1 := CD.out w10 bt At bt.length ct w10.heap.size e10 e10.size (Nat.le_refl _) (by omega) (own_sl encI_len (by omega) ot)
            rw [depthsF, if_pos hcode] at cD1
            unfold ListPost at cD1
            simp only at cD1
            clear hcode hbt cS1
            go_wp2_with fail
            refine cD1.mono ?_
            rintro r w11 ⟨Ag, ng, cg, rfl, og, b11⟩
            obtain rfl : ng = bt.length := (own_len encI_len (by omega) og).trans (depL_len _)
            have SE := hid (own_sl encI_len (by omega) og)
            have E11 := hid (e10.trans (b11.mono e10.size))
            clear og ot b10 b11 e10 cD1 hb
            rcases hcase with rfl | ⟨q1, q2⟩
            · skip
              go_wp2_with fail
              go_loopw [35] (fun j wl => ∃ (i : Nat), i ≤ bt.length ∧ j = .int .i64 i ∧ Below w11.heap.size w11 wl) (fun j _ => bt.length - (intOf j).toNat)
              case atStart => exact ⟨0, Nat.zero_le _, rfl, Below.refl _ _⟩
              case round =>
                obtain ⟨i, hi, rfl, hb2⟩ := hrel
                by_cases hin : i < bt.length
                · obtain ⟨d, be, oe, Hd, rfl, hbe, cd0⟩ := (SE.out.below hb2).int hin
                  have hdle := DE.out i d Hd.out
                  have nd : ¬ (k : Int) + 1 < d := by omega
                  have i0 : (0 : Int) ≤ (i : Int) := by omega
                  have i1 : (i : Int) < (bt.length : Int) := by omega
                  go_wp2_with fail
                  go_roundw
                  all_goals first | exact ⟨i + 1, by omega, by go_num, hb2⟩ | exact ⟨⟨i + 1, by omega, by go_num, hb2⟩, by simp [intOf]; omega⟩ | (simp [intOf]; omega)
                · have e13 := E11.out.trans (hb2.mono E11.out.size)
                  go_wp2_with fail
                  go_roundw
                  all_goals first | exact ⟨k + 1, lt, by omega, by go_num, rfl, HQ, by omega, e13⟩ | exact ⟨⟨k + 1, lt, by omega, by go_num, rfl, HQ, by omega, e13⟩, by simp [intOf]; omega⟩ | (simp [intOf]; omega)
            · skip
              go_wp2_with fail
              go_loopw [35] (fun j wl => ∃ (i : Nat), i ≤ bt.length ∧ j = .int .i64 i ∧ Below w11.heap.size w11 wl) (fun j _ => bt.length - (intOf j).toNat)
              case atStart => exact ⟨0, Nat.zero_le _, rfl, Below.refl _ _⟩
              case round =>
                obtain ⟨i, hi, rfl, hb2⟩ := hrel
                by_cases hin : i < bt.length
                · obtain ⟨d, be, oe, Hd, rfl, hbe, cd0⟩ := (SE.out.below hb2).int hin
                  have hdle := DE.out i d Hd.out
                  have nd : ¬ (k : Int) + 1 < d := by omega
                  have i0 : (0 : Int) ≤ (i : Int) := by omega
                  have i1 : (i : Int) < (bt.length : Int) := by omega
                  go_wp2_with fail
                  go_roundw
                  all_goals first | exact ⟨i + 1, by omega, by go_num, hb2⟩ | exact ⟨⟨i + 1, by omega, by go_num, hb2⟩, by simp [intOf]; omega⟩ | (simp [intOf]; omega)
                · have e13 := E11.out.trans (hb2.mono E11.out.size)
                  go_wp2_with fail
                  go_roundw
                  all_goals first | exact ⟨k + 1, lt, by omega, by go_num, rfl, HQ, by omega, e13⟩ | exact ⟨⟨k + 1, lt, by omega, by go_num, rfl, HQ, by omega, e13⟩, by simp [intOf]; omega⟩ | (simp [intOf]; omega)
          · have hk7 : k = 6 := by omega
            subst hk7
            obtain rfl : q = lc := by
              rcases hq.out with ⟨h, _⟩ | ⟨b', h⟩
              · omega
              · have h1 := HBC.out.le h (okD_tree h.good).1
                have h2 := h.le HBC.out (okD_mk HBC.out.good (fun x hx => by have := depL_lt HVV.out HBC.out x hx; omega))
                omega
            clear hq
            go_wp2_with fail
            go_ret
            exact ⟨rfl, B03.out.trans (hb.mono B03.out.size)⟩
    · rcases two with ⟨q2, h2⟩ | ⟨b', l', q2, h2⟩
      · exfalso
        have hk : okW ds (most + 5) b = true := okW_mk (okW_tree h1.good).1 (fun x hx => by have := (okW_tree h1.good).2 x hx; omega)
        rw [h2 b h1.len h1.in'] at hk
        cases hk
      · rw [q1] at cW1 cV
        rw [q2] at cW2
        unfold ListPost2 at cW1 cW2 cV
        simp only at cW1 cW2 cV
        have hll : ¬ l' < lc := by
          have := HBC.out.le h2 (okW_tree h2.good).1
          omega
        have hlw : ¬ l < l' := by
          have := h2.le h1 (okW_mk (okW_tree h1.good).1 (fun x hx => by have := (okW_tree h1.good).2 x hx; omega))
          omega
        have hcode := h1.code HVV.out (okW_tree h1.good).1
        have hparc := (codeG_zero hcode).1
        have hb1l := h1.len
        have cL := CL.out
        have cB := CB.out
        have hcost := h1.cost
        have LE := hid (fun (i : Nat) (z : Int) (hz : (loadK b ds b.length)[i]? = some z) => all_le_at (okW_tree h1.good).2 hz)
        have hLf : loadsF (cont rs) b ds = (loadK b ds b.length, 0) := by rw [loadsF, if_pos HVV.out, if_pos ⟨hparc, HDE.out⟩, if_pos (okW_tree h1.good).1]
        have hTf : treeCostF (cont rs) b = (l, 0) := by rw [treeCostF, if_pos hcode, ← hcost]
        replace cL := fun W A' m' c' B' h1 h2 h3 h4 h5 => cL W b A' m' c' B' h1 h2 h3 h4 h5
        replace cB := fun W A' m' c' B' h1 h2 h3 h4 h5 => cB W b A' m' c' B' h1 h2 h3 h4 h5
        rw [hLf] at cL
        rw [hTf] at cB
        unfold ListPost at cL
        simp only at cL
        simp only [pairI] at cB
        clear q1 q2 h1 h2 hcode hparc hcost hLf hTf
        go_wp2_with fail
        refine (cW1 _ (Below.refl _ _)).mono ?_
        rintro r w4 ⟨Aa, na, ca, rfl, oa, b4⟩
        go_wp2_with fail
        refine (cW2 _ b4).mono ?_
        rintro r w5 ⟨Ab, nb, cb, rfl, ob, b5⟩
        have e5 := b4.trans (b5.mono b4.size)
        go_wp2_with fail
        refine (cC _ e5).mono ?_
        rintro r w6 ⟨Ac, nc, cc, rfl, oc, b6⟩
        have e6 := e5.trans (b6.mono e5.size)
        go_wp2_with fail
        refine (cS _ e6).mono ?_
        rintro r w7 ⟨Ae, ne, ce, rfl, oe, b7⟩
        have e7 := e6.trans (b7.mono e6.size)
        go_wp2_with fail
        refine (cV _ e7).mono ?_
        rintro r w8 ⟨Af, nf, cf, rfl, of, b8⟩
        have e8 := e7.trans (b8.mono e7.size)
        obtain rfl := own_len encI_len (by omega) oa
        have SB := hid (own_sl encI_len (by omega) (own_below (own_below (own_below (own_below oa b5) b6) b7) b8))
        clear cW1 cW2 cC cS cV oa ob oc oe of b4 b5 b6 b7 b8 e5 e6 e7
        go_wp2_with fail
        refine (cL _ _ _ _ _ e8 e8.size (Nat.le_refl _) (by omega) SB.out).mono ?_
        rintro r w9 ⟨Al, nl, cl, rfl, ol, b9⟩
        obtain rfl : nl = b.length := (own_len encI_len (by omega) ol).trans (loadK_len _ _ _)
        have e9 := e8.trans (b9.mono e8.size)
        go_wp2_with fail
        refine (cB _ _ _ _ _ e9 e9.size (Nat.le_refl _) (by omega) ((SB.out.below b9).more b9.size)).mono ?_
        rintro r w12 ⟨rfl, b12⟩
        have e12 := e9.trans (b12.mono e9.size)
        have SL := hid (own_sl encI_len (by omega) (own_below ol b12))
        clear cL cB SB ol b9 b12 e9 e8
        go_wp2_with fail
        go_loopw [27] (fun j wl => ∃ (i : Nat), i ≤ b.length ∧ j = .int .i64 i ∧ Below w12.heap.size w12 wl) (fun j _ => b.length - (intOf j).toNat)
        case atStart => exact ⟨0, Nat.zero_le _, rfl, Below.refl _ _⟩
        case round =>
          obtain ⟨i, hi, rfl, hb3⟩ := hrel
          by_cases hin : i < b.length
          · obtain ⟨d, be, oe, Hd, rfl, hbe, cd0⟩ := (SL.out.below hb3).int hin
            have hdle := LE.out i d Hd.out
            have nd : ¬ most < d := by omega
            have i0 : (0 : Int) ≤ (i : Int) := by omega
            have i1 : (i : Int) < (b.length : Int) := by omega
            go_wp2_with fail
            go_roundw
            all_goals first | exact ⟨i + 1, by omega, by go_num, hb3⟩ | exact ⟨⟨i + 1, by omega, by go_num, hb3⟩, by simp [intOf]; omega⟩ | (simp [intOf]; omega)
          · have e14 := e12.trans (hb3.mono e12.size)
            clear SL LE e12 hb3
            go_wp2_with fail
            go_loopw [28, 29] (fun la dp wl => ∃ (k : Nat) (q : Int), k ≤ 6 ∧ dp = .int .i64 ((k : Int) + 1) ∧ la = .int .i64 q ∧ Hid ((k = 0 ∧ q = -1) ∨ ∃ b, Best (cont rs) (okD (k : Int)) b q) ∧ -1 ≤ q ∧ Below w3.heap.size w3 wl) (fun _ dp _ => (7 - intOf dp).toNat)
            case atStart => exact ⟨0, -1, by omega, rfl, rfl, hid (.inl ⟨rfl, rfl⟩), by omega, e14⟩
            case round =>
              obtain ⟨k, q, hk, rfl, rfl, hq, q0, hb⟩ := hrel
              by_cases hk6 : k < 6
              · obtain ⟨bt, lt, hsf, hbt⟩ := shallow_form (d := (k : Int) + 1) HVV.out (by omega) (by omega)
                have cS1 := CH.out ((k : Int) + 1) wr hb
                rw [hsf] at cS1
                unfold ListPost2 at cS1
                simp only at cS1
                have hlt2 : ¬ lt < lc := by
                  have := HBC.out.le hbt (okD_tree hbt.good).1
                  omega
                have hlb := hbt.bnd HVV.out
                have hcode := hbt.code HVV.out (okD_tree hbt.good).1
                have hbl := hbt.len
                have DE := hid (fun (i : Nat) (z : Int) (hz : (depL bt)[i]? = some z) => all_le_at (okD_tree hbt.good).2 hz)
                have HQ : Hid ((k + 1 = 0 ∧ lt = -1) ∨ ∃ b, Best (cont rs) (okD ((k + 1 : Nat) : Int)) b lt) := .inr ⟨bt, by rw [show ((k + 1 : Nat) : Int) = (k : Int) + 1 by omega]; exact hbt⟩
                have hcase : q = -1 ∨ (0 ≤ q ∧ ¬ q < lt) := by
                  rcases hq.out with ⟨_, h⟩ | ⟨b', h⟩
                  · exact .inl h
                  · have h2 := h.bnd HVV.out
                    have := hbt.le h (okD_mk (okD_tree h.good).1 (fun x hx => by have := (okD_tree h.good).2 x hx; omega))
                    exact .inr ⟨h2.1, by omega⟩
                clear hq hsf
                go_wp2_with fail
                refine cS1.mono ?_
                rintro r w10 ⟨At, nt, ct, rfl, ot, b10⟩
                obtain rfl := own_len encI_len (by omega) ot
                have e10 := hb.trans (b10.mono hb.size)
                have cD1 := CD.out w10 bt At bt.length ct w10.heap.size e10 e10.size (Nat.le_refl _) (by omega) (own_sl encI_len (by omega) ot)
                rw [depthsF, if_pos hcode] at cD1
                unfold ListPost at cD1
                simp only at cD1
                clear hcode hbt cS1
                go_wp2_with fail
                refine cD1.mono ?_
                rintro r w11 ⟨Ag, ng, cg, rfl, og, b11⟩
                obtain rfl : ng = bt.length := (own_len encI_len (by omega) og).trans (depL_len _)
                have SE := hid (own_sl encI_len (by omega) og)
                have E11 := hid (e10.trans (b11.mono e10.size))
                clear og ot b10 b11 e10 cD1 hb
                rcases hcase with rfl | ⟨q1, q2⟩
                · skip
                  go_wp2_with fail
                  go_loopw [35] (fun j wl => ∃ (i : Nat), i ≤ bt.length ∧ j = .int .i64 i ∧ Below w11.heap.size w11 wl) (fun j _ => bt.length - (intOf j).toNat)
                  case atStart => exact ⟨0, Nat.zero_le _, rfl, Below.refl _ _⟩
                  case round =>
                    obtain ⟨i, hi, rfl, hb2⟩ := hrel
                    by_cases hin : i < bt.length
                    · obtain ⟨d, be, oe, Hd, rfl, hbe, cd0⟩ := (SE.out.below hb2).int hin
                      have hdle := DE.out i d Hd.out
                      have nd : ¬ (k : Int) + 1 < d := by omega
                      have i0 : (0 : Int) ≤ (i : Int) := by omega
                      have i1 : (i : Int) < (bt.length : Int) := by omega
                      go_wp2_with fail
                      go_roundw
                      all_goals first | exact ⟨i + 1, by omega, by go_num, hb2⟩ | exact ⟨⟨i + 1, by omega, by go_num, hb2⟩, by simp [intOf]; omega⟩ | (simp [intOf]; omega)
                    · have e13 := E11.out.trans (hb2.mono E11.out.size)
                      go_wp2_with fail
                      go_roundw
                      all_goals first | exact ⟨k + 1, lt, by omega, by go_num, rfl, HQ, by omega, e13⟩ | exact ⟨⟨k + 1, lt, by omega, by go_num, rfl, HQ, by omega, e13⟩, by simp [intOf]; omega⟩ | (simp [intOf]; omega)
                · skip
                  go_wp2_with fail
                  go_loopw [35] (fun j wl => ∃ (i : Nat), i ≤ bt.length ∧ j = .int .i64 i ∧ Below w11.heap.size w11 wl) (fun j _ => bt.length - (intOf j).toNat)
                  case atStart => exact ⟨0, Nat.zero_le _, rfl, Below.refl _ _⟩
                  case round =>
                    obtain ⟨i, hi, rfl, hb2⟩ := hrel
                    by_cases hin : i < bt.length
                    · obtain ⟨d, be, oe, Hd, rfl, hbe, cd0⟩ := (SE.out.below hb2).int hin
                      have hdle := DE.out i d Hd.out
                      have nd : ¬ (k : Int) + 1 < d := by omega
                      have i0 : (0 : Int) ≤ (i : Int) := by omega
                      have i1 : (i : Int) < (bt.length : Int) := by omega
                      go_wp2_with fail
                      go_roundw
                      all_goals first | exact ⟨i + 1, by omega, by go_num, hb2⟩ | exact ⟨⟨i + 1, by omega, by go_num, hb2⟩, by simp [intOf]; omega⟩ | (simp [intOf]; omega)
                    · have e13 := E11.out.trans (hb2.mono E11.out.size)
                      go_wp2_with fail
                      go_roundw
                      all_goals first | exact ⟨k + 1, lt, by omega, by go_num, rfl, HQ, by omega, e13⟩ | exact ⟨⟨k + 1, lt, by omega, by go_num, rfl, HQ, by omega, e13⟩, by simp [intOf]; omega⟩ | (simp [intOf]; omega)
              · have hk7 : k = 6 := by omega
                subst hk7
                obtain rfl : q = lc := by
                  rcases hq.out with ⟨h, _⟩ | ⟨b', h⟩
                  · omega
                  · have h1 := HBC.out.le h (okD_tree h.good).1
                    have h2 := h.le HBC.out (okD_mk HBC.out.good (fun x hx => by have := depL_lt HVV.out HBC.out x hx; omega))
                    omega
                clear hq
                go_wp2_with fail
                go_ret
                exact ⟨rfl, B03.out.trans (hb.mono B03.out.size)⟩
end Go.Proofs.Ytfbgglhjlbdfiaa
