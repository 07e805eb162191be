/-
  The statement on trees, walked. No condition.
-/
import Derived.Test.YtfbgglhjlbdfiaaGBestQ
namespace Go.Proofs.Ytfbgglhjlbdfiaa
open Go.RowKit
set_option maxHeartbeats 400000

theorem a2At_any (A : Option Addr) (n c : Nat) (xs : List Int) (p m : Int) (w : World) (B : Nat) (hn : n ≤ 9223372036854775807) (hp : 0 ≤ p) (hm : 1 ≤ m) (hx : Sl w B 1 encB A n xs) (hz : ∀ z ∈ xs, 0 ≤ z ∧ z ≤ 255) :
    Calls Try.prog 16 #[.slice A n c, .int .i64 p, .int .i64 m] w fun e w' => ∃ r, e = .returned (.int .i64 r) ∧ 0 ≤ r ∧ r < m ∧ w' = w := by
  by_cases hlt : p < n
  · obtain ⟨i, rfl⟩ : ∃ i : Nat, p = (i : Int) := ⟨p.toNat, by omega⟩
    obtain ⟨z, b, off, Hx, rfl, hb, cb⟩ := hx.byte (i := i) (by omega)
    have hz2 := hz z (List.mem_of_getElem? Hx.out)
    have nz : ¬ m = 0 := by omega
    have m0 := Int.emod_nonneg z nz
    have m1 := Int.emod_lt_of_pos z (show 0 < m by omega)
    clear hx hz
    go_enter Try.func16, Try.ntmps16
    go_wp2
    go_ret
    exact ⟨_, rfl, m0, m1, rfl⟩
  · clear hx hz
    go_enter Try.func16, Try.ntmps16
    go_wp2
    go_ret
    exact ⟨0, rfl, by omega, by omega, rfl⟩
/-- what the calls of a statement on trees read: a table of costs and two lists -/
structure Ask (w : World) (A : Option Addr) (rs : List Row) (Ap : Option Addr) (ps : List Int) : Prop where
  tab : SlS w w.heap.size A rs.length rs
  par : Sl w w.heap.size 1 encI Ap ps.length ps
set_option maxHeartbeats 4000000 in
set_option maxRecDepth 100000 in
theorem FnTrees_walk (v u : Value) (w : World) (hv : Bytes w w.heap.size 9223372036854775807 v) (hu : Bytes w w.heap.size 9223372036854775807 u) :
    Calls Try.prog 3 #[v, u] w fun r w' => r = .returned (.bool true) ∧ Below w.heap.size w w' := by
  obtain ⟨A1, n1, c1, bs1, rfl, hn1, hbx1, hbz1⟩ := hv
  obtain ⟨A2, n2, c2, bs2, rfl, hn2, hbx2, hbz2⟩ := hu
  have hlong := fun W => a2Long_any A1 n1 c1 A2 n2 c2 W hn1 hn2
  by_cases h3 : 3000 < n1 ∨ 3000 < n2
  · have e : (decide (3000 < n1) || decide (3000 < n2)) = true := by simpa using h3
    rw [e] at hlong
    clear hbx1 hbz1 hbx2 hbz2 h3 e
    go_enter Try.func3, Try.ntmps3
    go_wp2_with fail
    refine (hlong _).mono ?_
    rintro r w1 ⟨rfl, e⟩
    replace e := e.symm
    subst e
    go_wp2_with fail
    go_ret
    exact ⟨rfl, Below.refl _ _⟩
  · have e : (decide (3000 < n1) || decide (3000 < n2)) = false := by simp; omega
    rw [e] at hlong
    have hv : Bytes w w.heap.size 5000 (.slice A1 n1 c1) := ⟨A1, n1, c1, bs1, rfl, by omega, hbx1, hbz1⟩
    have hu : Bytes w w.heap.size 5000 (.slice A2 n2 c2) := ⟨A2, n2, c2, bs2, rfl, by omega, hbx2, hbz2⟩
    have hc := A2Costs_any _ w hv
    have HV := hid hv
    have HU := hid hu
    clear hbx1 hbz1 hbx2 hbz2 h3 e hv hu
    go_enter Try.func3, Try.ntmps3
    go_wp2_with fail
    refine (hlong _).mono ?_
    rintro r w1 ⟨rfl, e⟩
    replace e := e.symm
    subst e
    go_wp2_with fail
    refine hc.mono ?_
    rintro r w1 ⟨A, c, rs, rfl, l2, l5, hV, hT, hX, b1⟩
    clear hc hlong
    have ht := A2Tree_any (.slice A2 n2 c2) rs.length (by omega) (by omega) w1 ((HU.out.below b1).more b1.size)
    go_wp2_with fail
    refine ht.mono ?_
    rintro r w2 ⟨Ap, cp, ps, rfl, hpl, hP, hO, b2⟩
    clear ht
    have b02 : Below w.heap.size w w2 := b1.trans (b2.mono b1.size)
    have hd := A2Demands_any (.slice A1 n1 c1) rs.length (by omega) (by omega) w2 ((HV.out.below b02).more b02.size)
    have hX2 := hid ((hX.out.below b2).more b2.size)
    have hps := hid (own_sl encI_len (by omega) hO.out)
    clear hX hO HV HU
    go_wp2_with fail
    refine hd.mono ?_
    rintro r w3 ⟨Ad, cd, ds, rfl, hdl, hD, hO, b3⟩
    clear hd
    have b03 : Below w.heap.size w w3 := b02.trans (b3.mono b02.size)
    have HX := hid ((hX2.out.below b3).more b3.size)
    have HPs := hid ((hps.out.below b3).more b3.size)
    clear hps
    have hdl2 : ds.length = ps.length := by omega
    have hds0 := own_sl encI_len (by omega) hO.out
    rw [hdl2] at hds0 ⊢
    have HDs := hid hds0
    have hlc : (cont rs).length = rs.length := cont_len rs
    have hpt := treeIn_tree hP.out
    have hpn := treeIn_inN hP.out (n := (cont rs).length) (by omega)
    have hpp : inP ps := fun x hx => by have := hpn x hx; omega
    have hcode := codeG_of hV.out (by omega) hpn hpt
    have hdem : demOk (cont rs) ds = true := by
      simp only [demOk, Bool.and_eq_true, beq_iff_eq, List.all_eq_true]
      refine ⟨by omega, fun x hx => ?_⟩
      obtain ⟨j, hj⟩ := List.mem_iff_getElem?.1 hx
      have := hD.out j x hj
      simp [inR]; omega
    obtain ⟨b, l, hcf, hbest⟩ := cheap_form hV.out
    have hbl := hbest.least ps (by omega) hpn hpt
    have hbc := hbest.code hV.out hbest.good
    have hbcost := hbest.cost
    have hcin := costG_in hV.out hpn (by omega)
    have hlin := hbest.bnd hV.out
    have hparc := (codeG_zero hcode).1
    have cT := fun W (hW : Below w3.heap.size w3 W) => implTreeCost_any A rs.length c rs Ap ps.length cp ps W w3.heap.size hW.size (by omega) (by omega) (HX.out.below hW) (HPs.out.below hW)
    have cC := fun W (hW : Below w3.heap.size w3 W) => implCheapestTree_any A rs.length c rs W w3.heap.size hW.size (by omega) (HX.out.below hW)
    have cB := fun W A' m' c' B' (hW : Below w3.heap.size w3 W) (hB1 : w3.heap.size ≤ B') (hB : B' ≤ W.heap.size) (hm : m' ≤ 2000000) hy => implTreeCost_any A rs.length c rs A' m' c' b W B' hB (by omega) hm ((HX.out.below hW).more hB1) hy
    have cL := fun W (hW : Below w3.heap.size w3 W) => implLoadsOf_any A rs.length c rs Ap ps.length cp ps Ad ps.length cd ds W w3.heap.size hW.size (by omega) (by omega) (by omega) (HX.out.below hW) (HPs.out.below hW) (HDs.out.below hW)
    have cD := fun W (hW : Below w3.heap.size w3 W) => implDepthsOf_any A rs.length c rs Ap ps.length cp ps W w3.heap.size hW.size (by omega) (by omega) (HX.out.below hW) (HPs.out.below hW)
    have cI := fun W (hW : Below w3.heap.size w3 W) => implIsTree_any A rs.length c rs Ap ps.length cp ps W w3.heap.size hW.size (by omega) (by omega) (HX.out.below hW) (HPs.out.below hW)
    have cM := fun W (hW : Below w3.heap.size w3 W) => implBestMove_any A rs.length c rs Ap ps.length cp ps W w3.heap.size hW.size (by omega) (by omega) (HX.out.below hW) (HPs.out.below hW)
    rw [treeCostF, if_pos hcode] at cT
    rw [hcf] at cC
    rw [treeCostF, if_pos hbc, ← hbcost] at cB
    rw [loadsF, if_pos hV.out, if_pos ⟨hparc, hdem⟩, if_pos hpt] at cL
    rw [depthsF, if_pos hcode] at cD
    rw [isTreeF, if_pos hparc, hpt] at cI
    simp only [pairI] at cT cB
    unfold ListPost2 at cC
    simp only at cC
    unfold ListPost at cL cD
    simp only at cL cD
    simp only [boolI] at cI
    simp only [tripI] at cM
    have hmove := hid (move_ok hcode)
    have LK := load_sums (ds := ds) hpp hpt (by omega) (fun z hz => by obtain ⟨j, hj⟩ := List.mem_iff_getElem?.1 hz; exact (hD.out j z hj).1) ps.length (Nat.le_refl _)
    have LL : (loadK ps ds ps.length).length = ps.length := loadK_len _ _ _
    obtain ⟨C, hC⟩ : ∃ C, C = costG (cont rs) ps := ⟨_, rfl⟩
    rw [← hC] at cT hbl hcin
    obtain ⟨o, ho⟩ : ∃ o, o = loadK ps ds ps.length := ⟨_, rfl⟩
    rw [← ho] at cL LK LL
    have W5 : ∀ i, i < ps.length → 1 ≤ upV ps ((i : Int) + 1) ∧ upV ps ((i : Int) + 1) ≤ ps.length := fun i hi => by
      have hx : ps[i]? = some ps[i] := List.getElem?_eq_getElem hi
      exact (dep_at hpt hpp hx).2.2
    have WB := wK_bd hD.out (by omega) (by omega) W5 ps.length (Nat.le_refl _)
    have TA := topK_le (ps := ps) LK.2.2
    have AM := allK_mono LK.2.2
    have SD : sumI ds = topK ps o ps.length := by rw [LK.1, ← allK_all, show ds.length = ps.length by omega]
    obtain ⟨G, hG⟩ : ∃ G, G = wK ps ds ps.length := ⟨_, rfl⟩
    rw [← hG] at WB
    have G275 : G ≤ 275 := by omega
    have AG : allK o ps.length = G := by rw [LK.2.1, hG]
    have BD := hid (fun i (hi : i ≤ ps.length) => show 0 ≤ topK ps o i ∧ topK ps o i ≤ allK o i ∧ allK o i ≤ G by
      have h1 := TA i
      have h2 := AM (ps.length - i) i
      rw [show i + (ps.length - i) = ps.length by omega, AG] at h2
      exact ⟨h1.1, h1.2, h2⟩)
    have DB := hid (fun (j : Nat) (x : Int) (hj : ds[j]? = some x) => hD.out j x hj)
    have WS := hid (fun (i : Nat) (x : Int) (hi : ds[i]? = some x) => show wK ps ds (i + 1) = wK ps ds i + x * upV ps ((i : Int) + 1) by rw [wK, List.getD, hi]; rfl)
    have WK := hid (fun i (hi : i ≤ ps.length) => wK_bd hD.out (by omega) (by omega) W5 i hi)
    have DP := hid (fun (i : Nat) (z : Int) (hz : ps[i]? = some z) => dep_at hpt hpp hz)
    have hPar := hid (fun (i : Nat) (z : Int) (hz : ps[i]? = some z) => hP.out i z hz)
    have hSD := hid SD
    have hAG := hid AG
    have hWG := hid hG
    have LO := hid LL
    have hset := hid (fun (i p : Nat) (hp : p < (cont rs).length) (ht : isTree (ps.set i (p : Int)) = true) => show codeG (cont rs) (ps.set i (p : Int)) = 0 by
      rw [codeG, if_pos (parC_set hparc i hp), ht]; rfl)
    have hleast := hid (fun (i p : Nat) (hp : p < (cont rs).length) (ht : isTree (ps.set i (p : Int)) = true) => hbest.least (ps.set i (p : Int)) (by rw [List.length_set]; omega) (fun x hx => by
      rcases List.mem_or_eq_of_mem_set hx with h | h
      · exact hpn x h
      · omega) ht)
    have hCC := hid hC
    have hBL : b.length ≤ 5 := by have := hbest.len; omega
    have HLC := hid hlc
    have HV := hid hV.out
    have HMV := hmove
    have hp1 : ps.length + 1 ≤ rs.length := by omega
    have hp2 : rs.length ≤ ps.length + 1 := by omega
    clear hpl hdl hdl2 hds0 hlc
    clear hC hG AG SD WB TA AM LK W5 hmove hpt hpn hpp hdem hcode hbc hbcost hparc hcf hbest ho hP hD hV hO LL
    go_wp2_with fail
    with_reducible refine (cT _ (Below.refl _ _)).mono ?_
    rintro r w4 ⟨rfl, b4⟩
    go_wp2_with fail
    with_reducible refine (cC _ b4).mono ?_
    rintro r w5 ⟨Ab, nb, cb, rfl, ob, b5⟩
    have e5 := b4.trans (b5.mono b4.size)
    obtain rfl := own_len encI_len (by omega) ob
    go_wp2_with fail
    with_reducible refine (cB _ _ _ _ _ e5 e5.size (Nat.le_refl _) (by omega) (own_sl encI_len (by omega) ob)).mono ?_
    rintro r w6 ⟨rfl, b6⟩
    have e6 := e5.trans (b6.mono e5.size)
    go_wp2_with fail
    with_reducible refine (cL _ e6).mono ?_
    rintro r w7 ⟨Al, nl, cl, rfl, ol, b7⟩
    have e7 := e6.trans (b7.mono e6.size)
    obtain rfl : nl = ps.length := (own_len encI_len (by omega) ol).trans LO.out
    go_wp2_with fail
    with_reducible refine (cD _ e7).mono ?_
    rintro r w8 ⟨Ae, ne, ce, rfl, oe, b8⟩
    have e8 := e7.trans (b8.mono e7.size)
    obtain rfl : ne = ps.length := (own_len encI_len (by omega) oe).trans (depL_len _)
    go_wp2_with fail
    with_reducible refine (cI _ e8).mono ?_
    rintro r w9 ⟨rfl, b9⟩
    have e9 := e8.trans (b9.mono e8.size)
    have SL := hid (own_sl encI_len (by omega) (own_below (own_below ol b8) b9))
    have SE := hid (own_sl encI_len (by omega) (own_below oe b9))
    have PS := hid ((HPs.out.below e9).more e9.size)
    have DS := hid ((HDs.out.below e9).more e9.size)
    have E9 := hid e9
    have B9 := hid (b03.trans (e9.mono b03.size))
    clear cT cC cL cD cI ob ol oe b4 b5 b6 b7 b8 b9 e5 e6 e7 e8 e9 b1 b2 b3 b02 b03 hX2
    go_wp2_with fail
    go_loopw [21, 22, 23] (fun a q j wl => ∃ (i : Nat) (ta aa : Int), i ≤ ps.length ∧ j = .int .i64 i ∧ a = .int .i64 ta ∧ q = .int .i64 aa ∧ Hid (topK ps o i = ta ∧ allK o i = aa) ∧ 0 ≤ ta ∧ ta ≤ aa ∧ aa ≤ G ∧ Below w9.heap.size w9 wl) (fun _ _ j _ => ps.length - (intOf j).toNat)
    case atStart => exact ⟨0, 0, 0, Nat.zero_le _, rfl, rfl, rfl, hid ⟨rfl, rfl⟩, by omega, by omega, by have := BD.out 0 (Nat.zero_le _); omega, Below.refl _ _⟩
    case round =>
      obtain ⟨i, ta, aa, hi, rfl, rfl, rfl, hta, t0, t1, t2, hb⟩ := hrel
      by_cases hin : i < ps.length
      · obtain ⟨z, bp, op, Hz, rfl, hbp, cz⟩ := (PS.out.below hb).int hin
        obtain ⟨y, bl, ol, Hy, rfl, hbl2, cy⟩ := (SL.out.below hb).int hin
        obtain ⟨d, be, oe, Hd, rfl, hbe, cd0⟩ := (SE.out.below hb).int hin
        obtain ⟨z0, z1⟩ := hPar.out i z Hz.out
        obtain ⟨g1, g2, g3, g4⟩ := DP.out i z Hz.out
        obtain rfl : d = upV ps ((i : Int) + 1) := by
          have := Hd.out
          simp only [depL, List.getElem?_map, List.getElem?_range hin, Option.map_some, Option.some.injEq] at this
          exact this.symm
        have hB := BD.out (i + 1) (by omega)
        have hta2 : topK ps o (i + 1) = ta + (if z = 0 then y else 0) ∧ allK o (i + 1) = aa + y := by
          simp only [topK, allK, hta.out.1, hta.out.2, List.getD, Hz.out, Hy.out, Option.getD_some, and_self]
        rw [hta2.1, hta2.2] at hB
        have lp : bp < wr.heap.size := by have := hb.size; omega
        have ll : bl < wr.heap.size := by have := hb.size; omega
        have le : be < wr.heap.size := by have := hb.size; omega
        have i0 : (0 : Int) ≤ (i : Int) := by omega
        have i1 : (i : Int) < (ps.length : Int) := by omega
        by_cases hz : z = 0
        · have hd1 := g1 hz
          subst hz
          rw [if_pos rfl] at hB hta2
          rw [hd1] at cd0
          have HT := hid hta2
          clear hta hta2 g1 g2 g3 g4
          go_wp2_with fail
          go_roundw
          all_goals first | exact ⟨i + 1, ta + y, aa + y, by omega, by go_num, rfl, rfl, HT, by omega, by omega, by omega, hb⟩ | exact ⟨⟨i + 1, ta + y, aa + y, by omega, by go_num, rfl, rfl, HT, by omega, by omega, by omega, hb⟩, by simp [intOf]; omega⟩ | (simp [intOf]; omega)
        · have hd1 := g2 hz
          rw [if_neg hz] at hB hta2
          rw [hd1] at cd0
          rw [Int.add_zero] at hB hta2
          obtain ⟨j, hj⟩ : ∃ j : Nat, z - 1 = (j : Int) := ⟨(z - 1).toNat, by omega⟩
          have hjn : j < ps.length := by omega
          have hez : (depL ps)[j]? = some (upV ps z) := by
            simp only [depL, List.getElem?_map, List.getElem?_range hjn, Option.map_some, ← hj, Int.sub_add_cancel]
          obtain ⟨be', oe', e', hbe', ce2⟩ := (SE.out.below hb).intAt hez
          injection e' with e'
          injection e' with e1 e2
          subst e1 e2
          rw [hd1] at g3 g4
          generalize upV ps z = dz at cd0 ce2 g3 g4
          have hW1 : IntKind.i64.wrap (z - 1) = (j : Int) := by rw [hj]; exact IntWalk.i64_in _ (by omega)
          have hW2 : IntKind.i64.wrap (dz + 1) = dz + 1 := IntWalk.i64_in _ (by omega)
          have j0 : (0 : Int) ≤ (j : Int) := by omega
          have j1 : (j : Int) < (ps.length : Int) := by omega
          have z2 : (z == 0) = false := by simpa using hz
          have HT := hid hta2
          clear hta hta2 g1 g2 hd1 hez hj
          go_wp2_with fail
          go_quiet (fail)
          go_wp2_with fail
          have hb2 := below_drewN hb nq
          go_roundw
          all_goals first | exact ⟨i + 1, ta, aa + y, by omega, by go_num, rfl, rfl, HT, by omega, by omega, by omega, hb2⟩ | exact ⟨⟨i + 1, ta, aa + y, by omega, by go_num, rfl, rfl, HT, by omega, by omega, by omega, hb2⟩, by simp [intOf]; omega⟩ | (simp [intOf]; omega)
      · have hil : i = ps.length := by omega
        subst hil
        obtain ⟨S, hS⟩ : ∃ S, S = sumI ds := ⟨_, rfl⟩
        obtain rfl : ta = S := by rw [hS, hSD.out, hta.out.1]
        obtain rfl : aa = G := by rw [← hAG.out, hta.out.2]
        have HS := hid hS
        clear hS hta
        go_wp2_with fail
        go_loopw [24, 25] (fun q j wl => ∃ (i : Nat) (wk : Int), i ≤ ps.length ∧ j = .int .i64 i ∧ q = .int .i64 wk ∧ Hid (wK ps ds i = wk) ∧ Below w9.heap.size w9 wl) (fun _ j _ => ps.length - (intOf j).toNat)
        case atStart => exact ⟨0, 0, Nat.zero_le _, rfl, rfl, hid rfl, hb⟩
        case round =>
          clear hb
          obtain ⟨i, wk, hi, rfl, rfl, hwk, hb⟩ := hrel
          have w0 := WK.out i hi
          rw [hwk.out] at w0
          by_cases hin : i < ps.length
          · obtain ⟨x, bd, od, Hx, rfl, hbd, cx⟩ := (DS.out.below hb).int hin
            obtain ⟨d, be, oe, Hd, rfl, hbe, cd0⟩ := (SE.out.below hb).int hin
            obtain rfl : d = upV ps ((i : Int) + 1) := by
              have := Hd.out
              simp only [depL, List.getElem?_map, List.getElem?_range hin, Option.map_some, Option.some.injEq] at this
              exact this.symm
            have w1' := WK.out (i + 1) (by omega)
            have hws := WS.out i x Hx.out
            rw [hwk.out] at hws
            rw [hws] at w1'
            obtain ⟨x0, x1⟩ := DB.out i x Hx.out
            generalize upV ps ((i : Int) + 1) = d at *
            obtain ⟨m, hm⟩ : ∃ m, m = x * d := ⟨_, rfl⟩
            rw [← hm] at hws w1'
            have hW1 : IntKind.i64.wrap (x * d) = m := by rw [← hm]; exact IntWalk.i64_in _ (by omega)
            have hW2 : IntKind.i64.wrap (wk + m) = wk + m := IntWalk.i64_in _ (by omega)
            have ld : bd < wr.heap.size := by have := hb.size; omega
            have le : be < wr.heap.size := by have := hb.size; omega
            have i0 : (0 : Int) ≤ (i : Int) := by omega
            have i1 : (i : Int) < (ps.length : Int) := by omega
            have HW := hid hws
            clear hm hws hwk
            go_wp2_with fail
            go_quiet (fail)
            go_wp2_with fail
            have hb2 := below_drewN hb nq
            go_roundw
            all_goals first | exact ⟨i + 1, wk + m, by omega, by go_num, rfl, HW, hb2⟩ | exact ⟨⟨i + 1, wk + m, by omega, by go_num, rfl, HW, hb2⟩, by simp [intOf]; omega⟩ | (simp [intOf]; omega)
          · have hil : i = ps.length := by omega
            subst hil
            obtain rfl : wk = aa := by rw [← hwk.out, ← hWG.out]
            have hsum := fun W B' (h : Sl W B' 1 encI Ad ps.length ds) => a2Sum_any Ad ps.length cd ds W B' (by omega) (fun x hx => by obtain ⟨j, hj⟩ := List.mem_iff_getElem?.1 hx; have := DB.out j x hj; omega) h
            rw [← HS.out] at hsum
            clear hwk
            go_wp2_with fail
            with_reducible refine (hsum _ _ (DS.out.below hb)).mono ?_
            rintro r w10 ⟨rfl, e⟩
            replace e := e.symm
            subst e
            clear hsum
            have eM := E9.out.trans (hb.mono E9.out.size)
            have bM := B9.out.trans (hb.mono B9.out.size)
            go_wp2_with fail
            with_reducible refine (cM _ eM).mono ?_
            rintro r w11 ⟨rfl, b11⟩
            have e11 := eM.trans (b11.mono eM.size)
            have bm11 := bM.trans (b11.mono bM.size)
            have hmv := HMV.out
            clear eM bM b11 cM SL SE PS DS HS hb hSD hAG hWG BD WS WK DP DB
            rcases hmv with hmv | ⟨i, p, him, hpm, hmv, htr, hcl⟩
            · rw [hmv]
              simp only
              clear hmv cB
              go_wp2_with fail
              go_ret
              exact ⟨rfl, bm11⟩
            · rw [hmv]
              simp only
              have hcode := hset.out i p hpm htr
              have hle := hleast.out i p hpm htr
              have PN := hid ((HPs.out.below e11).more e11.size)
              have cN := fun W A' m' c' B' (hW : Below w3.heap.size w3 W) (hB1 : w3.heap.size ≤ B') (hB : B' ≤ W.heap.size) (hm : m' ≤ 2000000) hy => implTreeCost_any A rs.length c rs A' m' c' (ps.set i (p : Int)) W B' hB (by omega) hm ((HX.out.below hW).more hB1) hy
              rw [treeCostF, if_pos hcode] at cN
              simp only [pairI] at cN
              rw [← hCC.out] at hcl
              generalize costG (cont rs) (ps.set i (p : Int)) = v at cN hcl hle
              obtain ⟨z, bp, op, _, hAp, hbp, _⟩ := PN.out.int him
              subst hAp
              have o0 := World.ownsRow_lit (base := w11.heap.size) (e := 2) (size := 1) w11 #[] 0 (Nat.le_refl _) (by simp [maxLen]) (by simp)
              obtain ⟨i0, hii, hz0, hz1, hz2⟩ := info_parts int_info
              have hnew := news_of_sl (PN.out.alloc (Nat.le_refl _) (.cells #[] 2))
              have hlen : (ps.flatMap encI).length = ps.length * 1 := by rw [flatMap_len encI_len]
              have f1 : ¬ (i : Int) + 1 < 1 := by omega
              have f2 : ¬ (rs.length : Int) ≤ (i : Int) + 1 := by omega
              have f3 : ¬ (p : Int) < 0 := by omega
              have f4 : ¬ (rs.length : Int) ≤ (p : Int) := by have := HLC.out; omega
              have f5 : ¬ v < l := by omega
              have key : ∀ g cg W, Below w11.heap.size w11 W → W.ownsRow w11.heap.size 2 1 (.slice (some ⟨g, 0, none⟩) ps.length cg) ps.length (ps.flatMap encI) →
                  Below w11.heap.size w11 (W.setCell ⟨g, i, none⟩ (.int .i64 p)) ∧ Sl (W.setCell ⟨g, i, none⟩ (.int .i64 p)) (W.setCell ⟨g, i, none⟩ (.int .i64 p)).heap.size 1 encI (some ⟨g, 0, none⟩) ps.length (ps.set i (p : Int)) := by
                intro g cg W bW oW
                have hg := own_lt oW
                have h1 : Below w11.heap.size w11 (W.setCell ⟨g, i, none⟩ (.int .i64 p)) := bW.setCell (by simp; omega) _
                have hs := (oW.stored i (.int .i64 p)).1
                rw [set_encI] at hs
                exact ⟨h1, own_sl encI_len (by omega) hs⟩
              have HK := hid key
              clear key hmv hcode htr hset hleast PN cB HPs
              go_wp2_with (at_builtin; refine wpList_append_lies _ rfl _ _ 26 rfl w11.heap.size 2 i0 (.int .i64 0) 1 8 Try.underlying26 hii hz0 hz1 hz2 rfl (by omega) (.slice (some ⟨w11.heap.size, 0, none⟩) 0 0) 0 [] rfl o0 ⟨bp, op, none⟩ ps.length cp (ps.flatMap encI) rfl hlen hnew (one_encI ps) (by omega) (by simp only [maxLen]; omega) (by omega) (by simp) (w11.heap.size + 1) (by simp) ?_; intro gg cap w13 ho3 hg3 hat3 hlt3; have hb3 : Below w11.heap.size w11 w13 := ((Below.refl _ _).alloc (Nat.le_refl _) _).grown hg3 (by simp) (fun q hq => by simp [Value.ownBlock] at hq; omega); rw [List.nil_append] at ho3; simp only [Nat.zero_add] at ho3; obtain ⟨q1, q3⟩ := HK.out gg cap w13 hb3 ho3; obtain ⟨⟨u0, e0⟩, f0⟩ := own_at ho3 (Below.refl _ _) i (by omega); clear ho3 hg3 hb3)
              with_reducible refine (cN _ _ _ _ _ (e11.trans (q1.mono e11.size)) (Nat.le_trans e11.size q1.size) (Nat.le_refl _) (by omega) q3).mono ?_
              rintro r w14 ⟨rfl, b14⟩
              have bend := (bm11.trans (q1.mono bm11.size)).trans (b14.mono (Nat.le_trans bm11.size q1.size))
              clear q1 q3 b14 e11 bm11
              go_wp2_with fail
              go_ret
              exact ⟨rfl, bend⟩
end Go.Proofs.Ytfbgglhjlbdfiaa
