/-
  CheapestTariff: the program's side. No condition.
-/
import Derived.Test.YtbgpdaclaknapaaTCheapP
import Derived.Deep.RegionHeld3
namespace Go.Proofs.Ytbgpdaclaknapaa
open Go.RowKit
set_option maxHeartbeats 400000

set_option maxHeartbeats 4000000 in
set_option maxRecDepth 100000 in
theorem implCheapestTariff_any (A : Option Addr) (n c : Nat) (ts : List TRow) (A1 : Option Addr) (m1 c1 : Nat) (gs : List Int) (A2 : Option Addr) (m2 c2 : Nat) (ms : List Int) (w : World) (B : Nat) (hB : B ≤ w.heap.size) (hn : n + totT ts ≤ 2000000) (hm1 : m1 ≤ 2000000) (hm2 : m2 ≤ 2000000) (hx : SlT w B A n ts) (hy : Sl w B 1 encI A1 m1 gs) (hz : Sl w B 1 encI A2 m2 ms) :
    Calls Try.prog 15 #[.slice A n c, .slice A1 m1 c1, .slice A2 m2 c2] w fun r w' => r = .returned (tripI (cheapT (tars ts) gs ms)) ∧ Below w.heap.size w w' := by
  have hlt : (tars ts).length = n := by rw [tars_len, hx.len]
  have hlg := hy.len
  have hlm := hz.len
  have hbad := hasBad_any A n c ts w B hB hn hx
  cases hv : (tars ts).all validT with
  | false =>
    have E : Hid (cheapT (tars ts) gs ms = (0, 0, 1)) := by simp [Hid, cheapT, hv]
    rw [hv] at hbad
    clear hx hy hz hv hlt hlg hlm
    go_enter Try.func15, Try.ntmps15
    go_wp2_with fail
    refine hbad.mono ?_
    rintro r w1 ⟨rfl, b1⟩
    clear hbad
    go_wp2_with fail
    go_ret3
    rw [E.out]
    exact ⟨rfl, b1⟩
  | true =>
    rw [hv] at hbad
    by_cases h8 : n ≤ 8 ∧ m1 ≤ 40 ∧ m2 = m1
    · obtain ⟨h8, h40, he⟩ := h8
      subst he
      have hog := fun W h1 h2 => outside_any A1 m2 c1 gs 0 5000 W B h1 hm1 h2
      have hom := fun W h1 h2 => outside_any A2 m2 c2 ms 0 20000 W B h1 hm1 h2
      rw [any_not (fun x => inR x 0 5000) gs] at hog
      rw [any_not (fun x => inR x 0 20000) ms] at hom
      cases hng : gs.all (fun x => inR x 0 5000) with
      | false =>
        have E : Hid (cheapT (tars ts) gs ms = (0, 0, 2)) := by
          rw [Hid, cheapT, if_pos hv, if_neg]; intro h; have := h.2.2.2; simp [numsT, hng] at this
        rw [hng] at hog
        clear hx hz hv hlt hlg hlm hng hom
        go_enter Try.func15, Try.ntmps15
        go_wp2_with fail
        refine hbad.mono ?_
        rintro r w1 ⟨rfl, b1⟩
        have hog1 := hog w1 (Nat.le_trans hB b1.size) (hy.below (b1.mono hB))
        clear hbad hog hy
        go_wp2_with fail
        refine hog1.mono ?_
        rintro r w2 ⟨rfl, b2⟩
        clear hog1
        go_wp2_with fail
        go_ret3
        rw [E.out]
        exact ⟨rfl, b1.trans (b2.mono b1.size)⟩
      | true =>
        rw [hng] at hog
        cases hnm : ms.all (fun x => inR x 0 20000) with
        | false =>
          have E : Hid (cheapT (tars ts) gs ms = (0, 0, 2)) := by
            rw [Hid, cheapT, if_pos hv, if_neg]; intro h; have := h.2.2.2; simp [numsT, hnm] at this
          rw [hnm] at hom
          clear hx hv hlt hlg hlm hng hnm
          go_enter Try.func15, Try.ntmps15
          go_wp2_with fail
          refine hbad.mono ?_
          rintro r w1 ⟨rfl, b1⟩
          have hog1 := hog w1 (Nat.le_trans hB b1.size) (hy.below (b1.mono hB))
          have HZ := hid hz
          clear hbad hog hy hz
          go_wp2_with fail
          refine hog1.mono ?_
          rintro r w2 ⟨rfl, b2⟩
          have e2 := b1.trans (b2.mono b1.size)
          have hom1 := hom w2 (Nat.le_trans hB e2.size) (HZ.out.below (e2.mono hB))
          clear hog1 HZ hom
          go_wp2_with fail
          refine hom1.mono ?_
          rintro r w3 ⟨rfl, b3⟩
          clear hom1
          go_wp2_with fail
          go_ret3
          rw [E.out]
          exact ⟨rfl, e2.trans (b3.mono e2.size)⟩
        | true =>
          have hnum : numsT gs ms = true := by simp only [numsT, hng, hnm]; rfl
          have E : Hid (cheapT (tars ts) gs ms = outT (bestT (tars ts) gs ms n)) := by
            rw [Hid, cheapT, if_pos hv, if_pos ⟨by omega, by omega, by omega, hnum⟩, hlt]
          rw [hnm] at hom
          have hat := nums_at hnum
          have HAT := hid hat.2
          have HV : Hid (∀ (i : Nat) (r : TRow), ts[i]? = some r → validT ⟨r.xs, r.h, r.e⟩ = true) := fun i r hr => List.all_eq_true.1 hv _ (List.mem_of_getElem? (tars_at hr))
          clear hv hlt hng hnm hnum hat
          go_enter Try.func15, Try.ntmps15
          go_wp2_with fail
          refine hbad.mono ?_
          rintro r w1 ⟨rfl, b1⟩
          have hog1 := hog w1 (Nat.le_trans hB b1.size) (hy.below (b1.mono hB))
          clear hbad hog
          go_wp2_with fail
          refine hog1.mono ?_
          rintro r w2 ⟨rfl, b2⟩
          have e2 := b1.trans (b2.mono b1.size)
          have hom1 := hom w2 (Nat.le_trans hB e2.size) (hz.below (e2.mono hB))
          clear hog1 hom b2
          go_wp2_with fail
          refine hom1.mono ?_
          rintro r w3 ⟨rfl, b3⟩
          have e3 := e2.trans (b3.mono e2.size)
          have HX := hid (hx.below (e3.mono hB))
          have HY := hid (hy.below (e3.mono hB))
          have HZ := hid (hz.below (e3.mono hB))
          have hB3 := Nat.le_trans hB e3.size
          have hlg1 : gs.length ≤ m2 := by omega
          have hlg2 : m2 ≤ gs.length := by omega
          clear hom1 b1 b3 e2 hx hy hz hlg hlm
          go_wp2_with fail
          go_loopw [9, 10, 48] (fun vb vl i wl => ∃ (k : Nat) (st : SSt), k ≤ n ∧ i = .int .i64 k ∧ vb = .int .i64 (bI st) ∧ vl = .int .i64 (lI st) ∧ okT st ∧ Hid (bestT (tars ts) gs ms k = st) ∧ Below w3.heap.size w3 wl) (fun _ _ i _ => n - (intOf i).toNat)
          case atStart => exact ⟨0, none, Nat.zero_le _, rfl, rfl, rfl, trivial, hid rfl, Below.refl _ _⟩
          case round =>
            obtain ⟨k, st, hk, rfl, rfl, rfl, hok, hbe, hb⟩ := hrel
            by_cases hkn : k < n
            · obtain ⟨Ai, ni, ci, xi, ah, ae, b, off, Hx, rfl, hbB, t0, t1, t2, hxi⟩ := (HX.out.below (hb.mono hB3)).row hkn
              have hni := totT_mem (List.mem_of_getElem? Hx.out)
              simp only at hni
              have HVi := hid (HV.out k _ Hx.out)
              have hBr := Nat.le_trans hB3 hb.size
              have HXI := hid hxi
              obtain ⟨wo, rfl⟩ : ∃ wo : World, wo = wr := ⟨_, rfl⟩
              clear hxi
              go_wp2_with fail
              go_loopw [13, 14, 55] (fun vq va i wl => ∃ (i' : Nat) (q : Int) (bl : Bool), i' ≤ m2 ∧ i = .int .i64 i' ∧ vq = .int .i64 q ∧ va = .bool bl ∧ SumOk ⟨xi, ah, ae⟩ gs ms i' bl q ∧ 0 ≤ q ∧ q ≤ 221100000 * (i' : Int) ∧ Below (wo.heap.size + 1) (wo.alloc (.cells #[.slice Ai ni ci, .int .i64 ah, .int .i64 ae] 30)) wl) (fun _ _ i _ => m2 - (intOf i).toNat)
              case atStart => exact ⟨0, 0, true, Nat.zero_le _, rfl, rfl, rfl, ⟨rfl, fun _ => rfl⟩, by omega, by omega, Below.refl _ _⟩
              case round =>
                obtain ⟨i, q, bl, him, rfl, rfl, rfl, hs, q0, q1, hb2⟩ := hrel
                have hws := hb2.size
                rw [World.size_alloc] at hws
                have hcur : Below wo.heap.size wo wr := ((Below.refl _ _).alloc (Nat.le_refl _) _).trans (hb2.mono (by omega))
                have hb3 := hb.trans (hcur.mono hb.size)
                clear t0 t1 t2
                by_cases hin : i < m2
                · obtain ⟨g, bg, og, Hg, rfl, hbg, cg⟩ := (HY.out.below (hb3.mono hB3)).int hin
                  obtain ⟨m, bm, om, Hm, rfl, hbm, cm⟩ := (HZ.out.below (hb3.mono hB3)).int hin
                  have hm := HAT.out i m Hm.out
                  have u0 : wr.cell? ⟨wo.heap.size, 0, none⟩ = some (.slice Ai ni ci) := by
                    rw [hb2.cell (p := ⟨wo.heap.size, 0, none⟩) (by simp)]; exact (World.cell?_alloc_at _ _ _ _ rfl).trans rfl
                  have u1 : wr.cell? ⟨wo.heap.size, 1, none⟩ = some (.int .i64 ah) := by
                    rw [hb2.cell (p := ⟨wo.heap.size, 1, none⟩) (by simp)]; exact (World.cell?_alloc_at _ _ _ _ rfl).trans rfl
                  have u2 : wr.cell? ⟨wo.heap.size, 2, none⟩ = some (.int .i64 ae) := by
                    rw [hb2.cell (p := ⟨wo.heap.size, 2, none⟩) (by simp)]; exact (World.cell?_alloc_at _ _ _ _ rfl).trans rfl
                  have cC := fun W (hW : Below wo.heap.size wo W) => cost_any Ai ni ci xi ah ae g m false W B (Nat.le_trans hBr hW.size) (by omega) (HXI.out.below (hW.mono hBr)) HVi.out hm.1 hm.2
                  have i0 : (0 : Int) ≤ (i : Int) := by omega
                  have i1 : (i : Int) < (m2 : Int) := by omega
                  have lw : wo.heap.size < wr.heap.size := by omega
                  cases hco : costOf xi ah ae g m false with
                  | none =>
                    rw [hco] at cC
                    simp only [costV, Option.getD_none, Option.isSome_none] at cC
                    have HS : SumOk ⟨xi, ah, ae⟩ gs ms (i + 1) false q := by
                      rw [SumOk, sumTo_no Hg.out Hm.out hco]; simp
                    clear hs hco
                    cases bl with
                    | true =>
                      go_wp2_with fail
                      go_region_held3 (fun W => W.cell? ⟨wo.heap.size, 0, none⟩ = some (.slice Ai ni ci) ∧ W.cell? ⟨wo.heap.size, 1, none⟩ = some (.int .i64 ah) ∧ W.cell? ⟨wo.heap.size, 2, none⟩ = some (.int .i64 ae) ∧ W.cell? ⟨bm, om + i, none⟩ = some (.int .i64 m))
                        (first
                          | go_keep
                          | (go_split_ands; exact ⟨below_cell (by assumption) b7, below_cell (by assumption) b7, below_cell (by assumption) b7, below_cell (by assumption) b7⟩))
                        (first
                          | (go_at_call 38; with_reducible refine (cC _ hcur.drew).mono ?_; rintro r w7 ⟨rfl, b7⟩))
                      have hb7 := hb2.trans (((Below.refl _ _).drew.trans b7).mono (by show wo.heap.size + 1 ≤ wr.heap.size; omega))
                      clear cC b7
                      go_wp2_with fail
                      go_roundw
                      all_goals first | exact ⟨i + 1, q, false, by omega, by go_num, rfl, rfl, HS, by omega, by omega, hb7⟩ | exact ⟨⟨i + 1, q, false, by omega, by go_num, rfl, rfl, HS, by omega, by omega, hb7⟩, by simp [intOf]; omega⟩ | (simp [intOf]; omega)
                    | false =>
                      go_wp2_with fail
                      go_region_held3 (fun W => W.cell? ⟨wo.heap.size, 0, none⟩ = some (.slice Ai ni ci) ∧ W.cell? ⟨wo.heap.size, 1, none⟩ = some (.int .i64 ah) ∧ W.cell? ⟨wo.heap.size, 2, none⟩ = some (.int .i64 ae) ∧ W.cell? ⟨bm, om + i, none⟩ = some (.int .i64 m))
                        (first
                          | go_keep
                          | (go_split_ands; exact ⟨below_cell (by assumption) b7, below_cell (by assumption) b7, below_cell (by assumption) b7, below_cell (by assumption) b7⟩))
                        (first
                          | (go_at_call 38; with_reducible refine (cC _ hcur.drew).mono ?_; rintro r w7 ⟨rfl, b7⟩))
                      have hb7 := hb2.trans (((Below.refl _ _).drew.trans b7).mono (by show wo.heap.size + 1 ≤ wr.heap.size; omega))
                      clear cC b7
                      go_wp2_with fail
                      go_roundw
                      all_goals first | exact ⟨i + 1, q, false, by omega, by go_num, rfl, rfl, HS, by omega, by omega, hb7⟩ | exact ⟨⟨i + 1, q, false, by omega, by go_num, rfl, rfl, HS, by omega, by omega, hb7⟩, by simp [intOf]; omega⟩ | (simp [intOf]; omega)
                  | some v =>
                    rw [hco] at cC
                    simp only [costV, Option.getD_some, Option.isSome_some] at cC
                    obtain ⟨v0, v1⟩ := cost_in HVi.out hm.1 hm.2 hco
                    cases bl with
                    | true =>
                      have HS : SumOk ⟨xi, ah, ae⟩ gs ms (i + 1) true (q + v) := by
                        rw [SumOk, sumTo_some (hs.2 rfl) Hg.out Hm.out hco]; simp
                      clear hs hco
                      go_wp2_with fail
                      go_region_held3 (fun W => W.cell? ⟨wo.heap.size, 0, none⟩ = some (.slice Ai ni ci) ∧ W.cell? ⟨wo.heap.size, 1, none⟩ = some (.int .i64 ah) ∧ W.cell? ⟨wo.heap.size, 2, none⟩ = some (.int .i64 ae) ∧ W.cell? ⟨bm, om + i, none⟩ = some (.int .i64 m))
                        (first
                          | go_keep
                          | (go_split_ands; exact ⟨below_cell (by assumption) b7, below_cell (by assumption) b7, below_cell (by assumption) b7, below_cell (by assumption) b7⟩))
                        (first
                          | (go_at_call 38; with_reducible refine (cC _ hcur.drew).mono ?_; rintro r w7 ⟨rfl, b7⟩))
                      have hb7 := hb2.trans (((Below.refl _ _).drew.trans b7).mono (by show wo.heap.size + 1 ≤ wr.heap.size; omega))
                      clear cC b7
                      go_wp2_with fail
                      go_roundw
                      all_goals first | exact ⟨i + 1, q + v, true, by omega, by go_num, rfl, rfl, HS, by omega, by omega, hb7⟩ | exact ⟨⟨i + 1, q + v, true, by omega, by go_num, rfl, rfl, HS, by omega, by omega, hb7⟩, by simp [intOf]; omega⟩ | (simp [intOf]; omega)
                    | false =>
                      have HS : SumOk ⟨xi, ah, ae⟩ gs ms (i + 1) false (q + v) := by
                        have h0 := hs.1
                        have h1 : sumTo ⟨xi, ah, ae⟩ gs ms i = none := by cases h : sumTo ⟨xi, ah, ae⟩ gs ms i with | none => rfl | some s => rw [h] at h0; cases h0
                        rw [SumOk, sumTo_none h1 1]; simp
                      clear hs hco
                      go_wp2_with fail
                      go_region_held3 (fun W => W.cell? ⟨wo.heap.size, 0, none⟩ = some (.slice Ai ni ci) ∧ W.cell? ⟨wo.heap.size, 1, none⟩ = some (.int .i64 ah) ∧ W.cell? ⟨wo.heap.size, 2, none⟩ = some (.int .i64 ae) ∧ W.cell? ⟨bm, om + i, none⟩ = some (.int .i64 m))
                        (first
                          | go_keep
                          | (go_split_ands; exact ⟨below_cell (by assumption) b7, below_cell (by assumption) b7, below_cell (by assumption) b7, below_cell (by assumption) b7⟩))
                        (first
                          | (go_at_call 38; with_reducible refine (cC _ hcur.drew).mono ?_; rintro r w7 ⟨rfl, b7⟩))
                      have hb7 := hb2.trans (((Below.refl _ _).drew.trans b7).mono (by show wo.heap.size + 1 ≤ wr.heap.size; omega))
                      clear cC b7
                      go_wp2_with fail
                      go_roundw
                      all_goals first | exact ⟨i + 1, q + v, false, by omega, by go_num, rfl, rfl, HS, by omega, by omega, hb7⟩ | exact ⟨⟨i + 1, q + v, false, by omega, by go_num, rfl, rfl, HS, by omega, by omega, hb7⟩, by simp [intOf]; omega⟩ | (simp [intOf]; omega)
                · skip
                  have hm_eq : i = gs.length := by omega
                  cases bl with
                  | false =>
                    have hsn : sumTo ⟨xi, ah, ae⟩ gs ms gs.length = none := by
                      have h0 := hs.1
                      rw [hm_eq] at h0
                      cases h : sumTo ⟨xi, ah, ae⟩ gs ms gs.length with | none => rfl | some s => rw [h] at h0; cases h0
                    have HB : Hid (bestT (tars ts) gs ms (k + 1) = st) := by rw [Hid, bestT_none (tars_at Hx.out) hsn, hbe.out]
                    clear hs hbe hsn hm_eq
                    go_wp2_with fail
                    go_roundw
                    all_goals first | exact ⟨k + 1, st, by omega, by go_num, rfl, rfl, hok, HB, hb3⟩ | exact ⟨⟨k + 1, st, by omega, by go_num, rfl, rfl, hok, HB, hb3⟩, by simp [intOf]; omega⟩ | (simp [intOf]; omega)
                  | true =>
                    have hss : sumTo ⟨xi, ah, ae⟩ gs ms gs.length = some q := by have := hs.2 rfl; rw [hm_eq] at this; exact this
                    have hstep := bestT_some (tars_at Hx.out) hss
                    rw [hbe.out] at hstep
                    have hq40 : q ≤ 8844000000 := by omega
                    cases st with
                    | none =>
                      have HB : Hid (bestT (tars ts) gs ms (k + 1) = some ((k : Int), q)) := by rw [Hid, hstep]; rfl
                      have HO : okT (some ((k : Int), q)) := ⟨by omega, by omega, q0, hq40⟩
                      clear hs hbe hss hm_eq hstep
                      simp only [bI, lI]
                      go_wp2_with fail
                      go_roundw
                      all_goals first | exact ⟨k + 1, some ((k : Int), q), by omega, by go_num, rfl, rfl, HO, HB, hb3⟩ | exact ⟨⟨k + 1, some ((k : Int), q), by omega, by go_num, rfl, rfl, HO, HB, hb3⟩, by simp [intOf]; omega⟩ | (simp [intOf]; omega)
                    | some p =>
                      obtain ⟨pb, pl⟩ := p
                      obtain ⟨o1, o2, o3, o4⟩ := hok
                      have npl : ¬ pl < 0 := by omega
                      by_cases hlt2 : q < pl
                      · have HB : Hid (bestT (tars ts) gs ms (k + 1) = some ((k : Int), q)) := by rw [Hid, hstep]; simp [better, hlt2]
                        have HO : okT (some ((k : Int), q)) := ⟨by omega, by omega, q0, hq40⟩
                        clear hs hbe hss hm_eq hstep
                        simp only [bI, lI]
                        go_wp2_with fail
                        go_roundw
                        all_goals first | exact ⟨k + 1, some ((k : Int), q), by omega, by go_num, rfl, rfl, HO, HB, hb3⟩ | exact ⟨⟨k + 1, some ((k : Int), q), by omega, by go_num, rfl, rfl, HO, HB, hb3⟩, by simp [intOf]; omega⟩ | (simp [intOf]; omega)
                      · have HB : Hid (bestT (tars ts) gs ms (k + 1) = some (pb, pl)) := by rw [Hid, hstep]; simp [better, hlt2]
                        have HO : okT (some (pb, pl)) := ⟨o1, o2, o3, o4⟩
                        clear hs hbe hss hm_eq hstep
                        simp only [bI, lI]
                        go_wp2_with fail
                        go_roundw
                        all_goals first | exact ⟨k + 1, some (pb, pl), by omega, by go_num, rfl, rfl, HO, HB, hb3⟩ | exact ⟨⟨k + 1, some (pb, pl), by omega, by go_num, rfl, rfl, HO, HB, hb3⟩, by simp [intOf]; omega⟩ | (simp [intOf]; omega)
            · have hkn2 : k = n := by omega
              subst hkn2
              have E2 : Hid (cheapT (tars ts) gs ms = outT st) := by rw [Hid, E.out, hbe.out]
              have hbz := e3.trans (hb.mono e3.size)
              clear hbe E HX HY HZ
              cases st with
              | none =>
                simp only [bI, lI]
                go_wp2_with fail
                go_ret3
                rw [E2.out]
                exact ⟨rfl, hbz⟩
              | some p =>
                obtain ⟨pb, pl⟩ := p
                obtain ⟨o1, o2, o3, o4⟩ := hok
                have npl : ¬ pl < 0 := by omega
                simp only [bI, lI]
                go_wp2_with fail
                go_ret3
                rw [E2.out]
                exact ⟨rfl, hbz⟩
    · have E : Hid (cheapT (tars ts) gs ms = (0, 0, 2)) := by
        rw [Hid, cheapT, if_pos hv, if_neg]; intro h; exact h8 ⟨by omega, by omega, by omega⟩
      clear hx hy hz hv hlt hlg hlm
      by_cases g8 : 8 < n
      · clear h8
        go_enter Try.func15, Try.ntmps15
        go_wp2_with fail
        refine hbad.mono ?_
        rintro r w1 ⟨rfl, b1⟩
        clear hbad
        go_wp2_with fail
        skip
        go_ret3
        rw [E.out]
        exact ⟨rfl, b1⟩
      · by_cases g40 : 40 < m1
        · clear h8
          go_enter Try.func15, Try.ntmps15
          go_wp2_with fail
          refine hbad.mono ?_
          rintro r w1 ⟨rfl, b1⟩
          clear hbad
          go_wp2_with fail
          skip
          go_ret3
          rw [E.out]
          exact ⟨rfl, b1⟩
        · have gne : ¬ m2 = m1 := fun h => h8 ⟨by omega, by omega, h⟩
          have gne2 : ((m2 : Int) == (m1 : Int)) = false := by rw [beq_eq_false_iff_ne]; omega
          clear h8
          go_enter Try.func15, Try.ntmps15
          go_wp2_with fail
          refine hbad.mono ?_
          rintro r w1 ⟨rfl, b1⟩
          clear hbad
          go_wp2_with fail
          skip
          go_ret3
          rw [E.out]
          exact ⟨rfl, b1⟩
end Go.Proofs.Ytbgpdaclaknapaa
