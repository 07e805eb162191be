/-
  CheapestTariff: the reference's side. No condition.
-/
import Derived.Test.YtbgpdaclaknapaaTCheapP
import Derived.Deep.RegionHeld3
namespace Go.Proofs.Ytbgpdaclaknapaa
open Go.RowKit
set_option maxHeartbeats 400000

set_option maxHeartbeats 4000000 in
set_option maxRecDepth 100000 in
theorem specCheapestTariff_any (A : Option Addr) (n c : Nat) (ts : List TRow) (A1 : Option Addr) (m1 c1 : Nat) (gs : List Int) (A2 : Option Addr) (m2 c2 : Nat) (ms : List Int) (w : World) (B : Nat) (hB : B ≤ w.heap.size) (hn : n + totT ts ≤ 2000000) (hm1 : m1 ≤ 2000000) (hm2 : m2 ≤ 2000000) (hx : SlT w B A n ts) (hy : Sl w B 1 encI A1 m1 gs) (hz : Sl w B 1 encI A2 m2 ms) :
    Calls Try.prog 12 #[.slice A n c, .slice A1 m1 c1, .slice A2 m2 c2] w fun r w' => r = .returned (tripI (cheapT (tars ts) gs ms)) ∧ Below w.heap.size w w' := by
  have hlt : (tars ts).length = n := by rw [tars_len, hx.len]
  have hlg := hy.len
  have hlm := hz.len
  cases hv : (tars ts).all validT with
  | false =>
    have E : Hid (cheapT (tars ts) gs ms = (0, 0, 1)) := by simp [Hid, cheapT, hv]
    have HVN := hid hv
    clear hy hz hv hlg hlm
    go_enter Try.func12, Try.ntmps12
    go_wp2_with fail
    go_loopw [9] (fun i wl => ∃ (k : Nat), k ≤ n ∧ i = .int .i64 k ∧ Hid (∀ (j : Nat) (t : Tariff), j < k → (tars ts)[j]? = some t → validT t = true) ∧ Below w.heap.size w wl) (fun i _ => n - (intOf i).toNat)
    case atStart => exact ⟨0, Nat.zero_le _, rfl, hid (fun j t h => by omega), Below.refl _ _⟩
    case round =>
      obtain ⟨k, hk, rfl, hall, hb⟩ := hrel
      by_cases hkn : k < n
      · obtain ⟨Ai, ni, ci, xi, ah, ae, b, off, Hx, rfl, hbB, t0, t1, t2, hxi⟩ := (hx.below (hb.mono hB)).row hkn
        have hni := totT_mem (List.mem_of_getElem? Hx.out)
        simp only at hni
        have hok := l23Ok_any b (off + k * 3) Ai ni ci xi ah ae wr B (Nat.le_trans hB hb.size) (by omega) hxi t0 t1 t2
        cases hr : validT ⟨xi, ah, ae⟩ with
        | false =>
          rw [hr] at hok
          clear hall hxi hr
          go_wp2_with fail
          refine hok.mono ?_
          rintro r w1 ⟨rfl, b1⟩
          have b2 := hb.trans (b1.mono hb.size)
          clear b1 hok
          go_wp2_with fail
          go_ret3
          rw [E.out]
          exact ⟨rfl, b2⟩
        | true =>
          rw [hr] at hok
          have HALL : Hid (∀ (j : Nat) (t : Tariff), j < k + 1 → (tars ts)[j]? = some t → validT t = true) := fun j t hj ht => by
            by_cases hjk : j = k
            · subst hjk
              rw [tars_at Hx.out] at ht
              injection ht with ht
              subst ht
              exact hr
            · exact hall.out j t (by omega) ht
          clear hall hxi hr
          go_wp2_with fail
          refine hok.mono ?_
          rintro r w1 ⟨rfl, b1⟩
          have b2 := hb.trans (b1.mono hb.size)
          clear b1 hok
          go_wp2_with fail
          go_roundw
          all_goals first | exact ⟨k + 1, by omega, by go_num, HALL, b2⟩ | exact ⟨⟨k + 1, by omega, by go_num, HALL, b2⟩, by simp [intOf]; omega⟩ | (simp [intOf]; omega)
      · exfalso
        have := HVN.out
        rw [Bool.eq_false_iff] at this
        refine this (List.all_eq_true.2 fun t ht => ?_)
        obtain ⟨j, hj⟩ := List.mem_iff_getElem?.1 ht
        exact hall.out j t (by have := (List.getElem?_eq_some_iff.1 hj).1; omega) hj
  | true =>
    have HV : Hid (∀ (i : Nat) (r : TRow), ts[i]? = some r → validT ⟨r.xs, r.h, r.e⟩ = true) := fun i r hr => List.all_eq_true.1 hv _ (List.mem_of_getElem? (tars_at hr))
    have HVT := hid hv
    have HLT := hid hlt
    clear hv hlt
    go_enter Try.func12, Try.ntmps12
    go_wp2_with fail
    go_loopw [9] (fun i wl => ∃ (k : Nat), k ≤ n ∧ i = .int .i64 k ∧ Below w.heap.size w wl) (fun i _ => n - (intOf i).toNat)
    case atStart => exact ⟨0, Nat.zero_le _, rfl, Below.refl _ _⟩
    case round =>
      obtain ⟨k, hk, rfl, hb⟩ := hrel
      by_cases hkn : k < n
      · obtain ⟨Ai, ni, ci, xi, ah, ae, b, off, Hx, rfl, hbB, t0, t1, t2, hxi⟩ := (hx.below (hb.mono hB)).row hkn
        have hni := totT_mem (List.mem_of_getElem? Hx.out)
        simp only at hni
        have hok := l23Ok_any b (off + k * 3) Ai ni ci xi ah ae wr B (Nat.le_trans hB hb.size) (by omega) hxi t0 t1 t2
        rw [HV.out k _ Hx.out] at hok
        clear hxi
        go_wp2_with fail
        refine hok.mono ?_
        rintro r w1 ⟨rfl, b1⟩
        have b2 := hb.trans (b1.mono hb.size)
        clear b1 hok
        go_wp2_with fail
        go_roundw
        all_goals first | exact ⟨k + 1, by omega, by go_num, b2⟩ | exact ⟨⟨k + 1, by omega, by go_num, b2⟩, by simp [intOf]; omega⟩ | (simp [intOf]; omega)
      · have hkn2 : k = n := by omega
        subst hkn2
        by_cases h8 : k ≤ 8 ∧ m1 ≤ 40 ∧ m1 = m2
        · obtain ⟨h8, h40, he⟩ := h8
          subst he
          go_wp2_with fail
          go_loopw [10] (fun i wl => ∃ (j : Nat), j ≤ m1 ∧ i = .int .i64 j ∧ Hid (∀ i : Nat, i < j → (∀ g, gs[i]? = some g → inR g 0 5000 = true) ∧ ∀ m, ms[i]? = some m → inR m 0 20000 = true) ∧ Below w.heap.size w wl) (fun i _ => m1 - (intOf i).toNat)
          case atStart => exact ⟨0, Nat.zero_le _, rfl, hid (fun i h => by omega), hb⟩
          case round =>
            clear hb
            obtain ⟨j, hj, rfl, hsz, hb⟩ := hrel
            by_cases hjm : j < m1
            · obtain ⟨g, bg, og, Hg, rfl, hbg, cg⟩ := (hy.below (hb.mono hB)).int hjm
              obtain ⟨m, bm, om, Hm, rfl, hbm, cm⟩ := (hz.below (hb.mono hB)).int hjm
              have hsi := l23Size_any g m
              have j0 : (0 : Int) ≤ (j : Int) := by omega
              have j1 : (j : Int) < (m1 : Int) := by omega
              cases hq : inR g 0 5000 && inR m 0 20000 with
              | false =>
                rw [hq] at hsi
                have E : Hid (cheapT (tars ts) gs ms = (0, 0, 2)) := by
                  rw [Hid, cheapT, if_pos HVT.out, if_neg]
                  intro h
                  have h2 := h.2.2.2
                  simp only [numsT, Bool.and_eq_true, List.all_eq_true] at h2
                  rw [h2.1 g (List.mem_of_getElem? Hg.out), h2.2 m (List.mem_of_getElem? Hm.out)] at hq
                  cases hq
                clear hsz hq
                go_wp2_with fail
                go_quiet ((go_at_call 32; exact Calls.quiet_of_same (hsi _)))
                go_wp2_with fail
                go_ret3
                rw [E.out]
                exact ⟨rfl, below_drewN hb nq⟩
              | true =>
                rw [hq] at hsi
                have HSZ : Hid (∀ i : Nat, i < j + 1 → (∀ g, gs[i]? = some g → inR g 0 5000 = true) ∧ ∀ m, ms[i]? = some m → inR m 0 20000 = true) := fun i hi => by
                  by_cases hij : i = j
                  · subst hij
                    simp only [Bool.and_eq_true] at hq
                    refine ⟨fun g' hg' => ?_, fun m' hm' => ?_⟩
                    · rw [Hg.out] at hg'; injection hg' with hg'; subst hg'; exact hq.1
                    · rw [Hm.out] at hm'; injection hm' with hm'; subst hm'; exact hq.2
                  · exact hsz.out i (by omega)
                clear hsz hq
                go_wp2_with fail
                go_quiet ((go_at_call 32; exact Calls.quiet_of_same (hsi _)))
                go_wp2_with fail
                have hb2 := below_drewN hb nq
                go_roundw
                all_goals first | exact ⟨j + 1, by omega, by go_num, HSZ, hb2⟩ | exact ⟨⟨j + 1, by omega, by go_num, HSZ, hb2⟩, by simp [intOf]; omega⟩ | (simp [intOf]; omega)
            · have hnum : numsT gs ms = true := by
                simp only [numsT, Bool.and_eq_true, List.all_eq_true]
                refine ⟨fun g hg => ?_, fun m hm => ?_⟩
                · obtain ⟨i, hi⟩ := List.mem_iff_getElem?.1 hg
                  exact (hsz.out i (by have := (List.getElem?_eq_some_iff.1 hi).1; omega)).1 g hi
                · obtain ⟨i, hi⟩ := List.mem_iff_getElem?.1 hm
                  exact (hsz.out i (by have := (List.getElem?_eq_some_iff.1 hi).1; omega)).2 m hi
              have E : Hid (cheapT (tars ts) gs ms = outT (bestT (tars ts) gs ms k)) := by
                rw [Hid, cheapT, if_pos HVT.out, if_pos ⟨by have := HLT.out; omega, by omega, by omega, hnum⟩, HLT.out]
              have hat := nums_at hnum
              have HAT := hid hat.2
              have hlg1 : gs.length ≤ m1 := by omega
              have hlg2 : m1 ≤ gs.length := by omega
              have HX := hid (hx.below (hb.mono hB))
              have HY := hid (hy.below (hb.mono hB))
              have HZ := hid (hz.below (hb.mono hB))
              have hB3 := Nat.le_trans hB hb.size
              have e3 := hb
              obtain ⟨w3, rfl⟩ : ∃ w3 : World, w3 = wr := ⟨_, rfl⟩
              clear hsz hnum hat hlg hlm hx hy hz HVT HLT hb
              go_wp2_with fail
              go_loopw [11, 12, 13] (fun vb vl i wl => ∃ (q : Nat) (st : SSt), q ≤ k ∧ i = .int .i64 q ∧ vb = .int .i64 (bS st) ∧ vl = .int .i64 (lS st) ∧ okT st ∧ Hid (bestT (tars ts) gs ms q = st) ∧ Below w3.heap.size w3 wl) (fun _ _ i _ => k - (intOf i).toNat)
              case atStart => exact ⟨0, none, Nat.zero_le _, rfl, rfl, rfl, trivial, hid rfl, Below.refl _ _⟩
              case round =>
                obtain ⟨k', st, hk', rfl, rfl, rfl, hok, hbe, hb⟩ := hrel
                by_cases hkk : k' < k
                · obtain ⟨Ai, ni, ci, xi, ah, ae, b, off, Hx, rfl, hbB, t0, t1, t2, hxi⟩ := (HX.out.below (hb.mono hB3)).row hkk
                  have hni := totT_mem (List.mem_of_getElem? Hx.out)
                  simp only at hni
                  have HVi := hid (HV.out k' _ Hx.out)
                  obtain ⟨hss0, _, _, h0, h1, e0, e1⟩ := validT_parts HVi.out
                  have Hss := hid hss0
                  have hBr := Nat.le_trans hB3 hb.size
                  have HXI := hid hxi
                  obtain ⟨wo, rfl⟩ : ∃ wo : World, wo = wr := ⟨_, rfl⟩
                  clear hxi hss0
                  go_wp2_with fail
                  go_loopw [14, 15, 16] (fun vq va i wl => ∃ (i' : Nat) (q : Int), i' ≤ m1 ∧ i = .int .i64 i' ∧ vq = .int .i64 q ∧ va = .bool true ∧ Hid (sumTo ⟨xi, ah, ae⟩ gs ms i' = some q) ∧ 0 ≤ q ∧ q ≤ 221100000 * (i' : Int) ∧ Below wo.heap.size wo wl) (fun _ _ i _ => m1 - (intOf i).toNat)
                  case atStart => exact ⟨0, 0, Nat.zero_le _, rfl, rfl, rfl, hid rfl, by omega, by omega, Below.refl _ _⟩
                  case round =>
                    obtain ⟨i, q, him, rfl, rfl, rfl, hs, q0, q1, hcur⟩ := hrel
                    have hb3 := hb.trans (hcur.mono hb.size)
                    by_cases hin : i < m1
                    · obtain ⟨g, bg, og, Hg, rfl, hbg, cg⟩ := (HY.out.below (hb3.mono hB3)).int hin
                      obtain ⟨m, bm, om, Hm, rfl, hbm, cm⟩ := (HZ.out.below (hb3.mono hB3)).int hin
                      have hm := HAT.out i m Hm.out
                      have u0 := below_cell t0 hcur
                      have u1 := below_cell t1 hcur
                      have u2 := below_cell t2 hcur
                      have cX := HXI.out.below (hcur.mono hBr)
                      have hBw := Nat.le_trans hBr hcur.size
                      have i0 : (0 : Int) ≤ (i : Int) := by omega
                      have i1 : (i : Int) < (m1 : Int) := by omega
                      have k0 : (0 : Int) ≤ (k' : Int) := by omega
                      have k1 : (k' : Int) < (k : Int) := by omega
                      have lb : b < wr.heap.size := by omega
                      have hst := fun W (hc : Sl W B 2 encStep Ai ni xi) (hW : B ≤ W.heap.size) p0 => l23Step_any b (off + k' * 3) Ai ni ci xi g W B hW (by omega) hc p0
                      rcases find_at (m := g) (xs := xi) (k0 := 0) with ⟨f1, f2⟩ | ⟨j, x, hj, f1, f2⟩
                      · have hsn : sumTo ⟨xi, ah, ae⟩ gs ms gs.length = none := by
                          have h1 := sumTo_no Hg.out Hm.out (t := ⟨xi, ah, ae⟩) (show costOf xi ah ae g m false = none by simp [costOf, f2])
                          have := sumTo_none h1 (gs.length - (i + 1))
                          rwa [show i + 1 + (gs.length - (i + 1)) = gs.length by omega] at this
                        have HB : Hid (bestT (tars ts) gs ms (k' + 1) = st) := by rw [Hid, bestT_none (tars_at Hx.out) hsn, hbe.out]
                        rw [f1] at hst
                        have hq := hst
                        clear hs hbe hsn f1 f2 t0 t1 t2
                        go_wp2_with fail
                        go_quiet ((go_at_call 40; exact Calls.quiet_of_same (hst _ (cX.keep fun _ _ => rfl) hBw u0)))
                        go_wp2_with fail
                        have hb4 := below_drewN hb3 nq
                        go_roundw
                        all_goals first | exact ⟨k' + 1, st, by omega, by go_num, rfl, rfl, hok, HB, hb4⟩ | exact ⟨⟨k' + 1, st, by omega, by go_num, rfl, rfl, hok, HB, hb4⟩, by simp [intOf]; omega⟩ | (simp [intOf]; omega)
                      · have hco : costOf xi ah ae g m false = some (wholeP x ah ae m false) := by simp [costOf, f2]
                        obtain ⟨v0, v1⟩ := cost_in HVi.out hm.1 hm.2 hco
                        have HS : Hid (sumTo ⟨xi, ah, ae⟩ gs ms (i + 1) = some (q + wholeP x ah ae m false)) := by rw [Hid]; exact sumTo_some hs.out Hg.out Hm.out hco
                        have hp := Hss.out x (List.mem_of_getElem? hj)
                        rw [f1, Nat.zero_add] at hst
                        have hwh := fun W (hW : Below wr.heap.size wr W) => l23Whole_any b (off + k' * 3) Ai ni ci xi ah ae m j x false W B (Nat.le_trans hBw hW.size) (by omega) (cX.below (hW.mono hBw)) hj hp.2.1 hp.2.2 h0 h1 e0 e1 hm.1 hm.2 (below_cell u0 hW) (below_cell u1 hW) (below_cell u2 hW)
                        generalize wholeP x ah ae m false = v at HS v0 v1 hwh
                        have nj : ¬ (j : Int) < 0 := by omega
                        have hW : IntKind.i64.wrap (q + v) = q + v := IntWalk.i64_in _ (by omega)
                        clear hs f1 f2 t0 t1 t2 hj hp hco
                        go_wp2_with fail
                        go_quiet ((go_at_call 40; exact Calls.quiet_of_same (hst _ (cX.keep fun _ _ => rfl) hBw u0)))
                        have hq2 : ∀ z, Below wr.heap.size wr (wr.drewN z) := fun z => below_drewN (Below.refl _ _) z
                        have cm2 : (wr.drewN nq).cell? ⟨bm, om + i, none⟩ = some (.int .i64 m) := cm
                        go_wp2_with fail
                        go_region_held3 (fun W => W.cell? ⟨bm, om + i, none⟩ = some (.int .i64 m))
                          (first
                            | go_keep
                            | exact below_cell (by assumption) b7)
                          (first
                            | (go_at_call 34; with_reducible refine (hwh _ (hq2 _)).mono ?_; rintro r w7 ⟨rfl, b7⟩))
                        have hb7 := (hcur.trans ((hq2 (nq + 1)).mono hcur.size)).trans (b7.mono hcur.size)
                        clear hwh b7 hq2
                        go_wp2_with fail
                        go_roundw
                        all_goals first | exact ⟨i + 1, q + v, by omega, by go_num, rfl, rfl, HS, by omega, by omega, hb7⟩ | exact ⟨⟨i + 1, q + v, by omega, by go_num, rfl, rfl, HS, by omega, by omega, hb7⟩, by simp [intOf]; omega⟩ | (simp [intOf]; omega)
                    · skip
                      have hm_eq : i = gs.length := by omega
                      have hss : sumTo ⟨xi, ah, ae⟩ gs ms gs.length = some q := by have := hs.out; rw [hm_eq] at this; exact this
                      have hstep := bestT_some (tars_at Hx.out) hss
                      rw [hbe.out] at hstep
                      have hq40 : q ≤ 8844000000 := by omega
                      cases st with
                      | none =>
                        have HB : Hid (bestT (tars ts) gs ms (k' + 1) = some ((k' : Int), q)) := by rw [Hid, hstep]; rfl
                        have HO : okT (some ((k' : Int), q)) := ⟨by omega, by omega, q0, hq40⟩
                        clear hs hbe hss hm_eq hstep
                        simp only [bS, lS]
                        go_wp2_with fail
                        go_roundw
                        all_goals first | exact ⟨k' + 1, some ((k' : Int), q), by omega, by go_num, rfl, rfl, HO, HB, hb3⟩ | exact ⟨⟨k' + 1, some ((k' : Int), q), by omega, by go_num, rfl, rfl, HO, HB, hb3⟩, by simp [intOf]; omega⟩ | (simp [intOf]; omega)
                      | some p =>
                        obtain ⟨pb, pl⟩ := p
                        obtain ⟨o1, o2, o3, o4⟩ := hok
                        have npl : ¬ pb < 0 := by omega
                        by_cases hlt2 : q < pl
                        · have HB : Hid (bestT (tars ts) gs ms (k' + 1) = some ((k' : Int), q)) := by rw [Hid, hstep]; simp [better, hlt2]
                          have HO : okT (some ((k' : Int), q)) := ⟨by omega, by omega, q0, hq40⟩
                          clear hs hbe hss hm_eq hstep
                          simp only [bS, lS]
                          go_wp2_with fail
                          go_roundw
                          all_goals first | exact ⟨k' + 1, some ((k' : Int), q), by omega, by go_num, rfl, rfl, HO, HB, hb3⟩ | exact ⟨⟨k' + 1, some ((k' : Int), q), by omega, by go_num, rfl, rfl, HO, HB, hb3⟩, by simp [intOf]; omega⟩ | (simp [intOf]; omega)
                        · have HB : Hid (bestT (tars ts) gs ms (k' + 1) = some (pb, pl)) := by rw [Hid, hstep]; simp [better, hlt2]
                          have HO : okT (some (pb, pl)) := ⟨o1, o2, o3, o4⟩
                          clear hs hbe hss hm_eq hstep
                          simp only [bS, lS]
                          go_wp2_with fail
                          go_roundw
                          all_goals first | exact ⟨k' + 1, some (pb, pl), by omega, by go_num, rfl, rfl, HO, HB, hb3⟩ | exact ⟨⟨k' + 1, some (pb, pl), by omega, by go_num, rfl, rfl, HO, HB, hb3⟩, by simp [intOf]; omega⟩ | (simp [intOf]; omega)
                · have hkn3 : k' = k := by omega
                  subst hkn3
                  have E2 : Hid (cheapT (tars ts) gs ms = outT st) := by rw [Hid, E.out, hbe.out]
                  have hbz := e3.trans (hb.mono e3.size)
                  clear hbe E HX HY HZ
                  cases st with
                  | none =>
                    simp only [bS, lS]
                    go_wp2_with fail
                    go_ret3
                    rw [E2.out]
                    exact ⟨rfl, hbz⟩
                  | some p =>
                    obtain ⟨pb, pl⟩ := p
                    obtain ⟨o1, o2, o3, o4⟩ := hok
                    have npl : ¬ pb < 0 := by omega
                    simp only [bS, lS]
                    go_wp2_with fail
                    go_ret3
                    rw [E2.out]
                    exact ⟨rfl, hbz⟩
        · have E : Hid (cheapT (tars ts) gs ms = (0, 0, 2)) := by
            rw [Hid, cheapT, if_pos HVT.out, if_neg]; intro h; exact h8 ⟨by have := HLT.out; omega, by omega, by omega⟩
          clear hx hy hz hlg hlm
          by_cases g8 : 8 < k
          · clear h8
            go_wp2_with fail
            go_ret3
            rw [E.out]
            exact ⟨rfl, hb⟩
          · by_cases g40 : 40 < m1
            · clear h8
              go_wp2_with fail
              go_ret3
              rw [E.out]
              exact ⟨rfl, hb⟩
            · have gne : ¬ m1 = m2 := fun h => h8 ⟨by omega, by omega, h⟩
              have gne2 : ((m1 : Int) == (m2 : Int)) = false := by rw [beq_eq_false_iff_ne]; omega
              have gne3 : ((m1 : Int) != (m2 : Int)) = true := by rw [bne_iff_ne]; omega
              have gne4 : (m1 == m2) = false := by rw [beq_eq_false_iff_ne]; exact gne
              have gne5 : (m1 != m2) = true := by rw [bne_iff_ne]; exact gne
              clear h8
              go_wp2_with fail
              go_ret3
              rw [E.out]
              exact ⟨rfl, hb⟩
end Go.Proofs.Ytbgpdaclaknapaa
