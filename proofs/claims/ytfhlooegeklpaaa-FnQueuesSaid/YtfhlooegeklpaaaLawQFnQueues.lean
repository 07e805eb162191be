/-
  The statement on queues, walked. No condition.
-/
import Derived.Test.YtfhlooegeklpaaaQDraw
import Derived.Test.YtfhlooegeklpaaaQPlain7
namespace Go.Proofs.Ytfhlooegeklpaaa
open Go.RowKit
set_option maxHeartbeats 400000

theorem lists_len {w : World} {lo T n : Nat} {v : Value} {l : List Int} {m : Nat} (h : w.ownsRow lo T 1 v n (l.flatMap encI)) (hl : l.length = m) : n = m := by
  have h1 := h.1
  rw [flatMap_len encI_len, hl, Nat.mul_one] at h1
  omega
theorem own_cap {w : World} {lo T k : Nat} {A : Option Addr} {n c m : Nat} {xs : List Value} (h : w.ownsRow lo T k (.slice A n c) m xs) : n ≤ c := by
  obtain ⟨_, _, e, h⟩ := own_form h
  injection e with _ e1 e2
  omega
set_option maxHeartbeats 4000000 in
set_option maxRecDepth 100000 in
theorem FnQueues_walk (v : Value) (w : World) (hv : Bytes w w.heap.size 9223372036854775807 v) :
    Calls Try.prog 4 #[v] w fun r w' => r = .returned (.bool true) ∧ Below w.heap.size w w' := by
  obtain ⟨A, n, c, bs, rfl, hn, hbx, hbz⟩ := hv
  have hlong := fun W => a2Long_any A n c none 0 0 W hn (by omega)
  by_cases h3 : 3000 < n
  · have e : (decide (3000 < n) || decide (3000 < 0)) = true := by simp [h3]
    rw [e] at hlong
    clear hbx hbz h3 e
    go_enter Try.func4, Try.ntmps4
    go_wp2_with fail
    refine (hlong _).mono ?_
    rintro r w1 ⟨rfl, e⟩
    replace e := e.symm
    subst e
    go_wp2_with fail
    go_ret
    exact ⟨rfl, Below.refl _ _⟩
  · have e : (decide (3000 < n) || decide (3000 < 0)) = false := by simp [h3]
    rw [e] at hlong
    have hq := A2Queue_any (.slice A n c) w ⟨A, n, c, bs, rfl, by omega, hbx, hbz⟩
    clear hbx hbz h3 e
    go_enter Try.func4, Try.ntmps4
    go_wp2_with fail
    refine (hlong _).mono ?_
    rintro r w1 ⟨rfl, e⟩
    replace e := e.symm
    subst e
    go_wp2_with fail
    refine hq.mono ?_
    rintro r w1 ⟨A, c, xs, rfl, hs, ho, _, b1⟩
    clear hq hlong
    have hv := smallQ_valid hs
    have h8 := smallQ_len hs
    have hx := own_sl encItem_len (by omega) ho
    have e3 : orderRes xs = orderQ xs 0 := by simp [orderRes, hv]
    have e4 : codeQ xs = 0 := by simp [codeQ, hv]
    have e5 : waitsRes xs = waitsQ xs := by simp [waitsRes, hv]
    have e6 : startsRes xs = startsQ xs 0 := by simp [startsRes, hv]
    have e7 : overRes xs = overQ xs := by simp [overRes, hv]
    have cA := fun W hW hx' => implStartsOfQueue_any A xs.length c xs W w1.heap.size hW (by omega) hx'
    have cS := fun W hW hx' => implServedOrder_any A xs.length c xs W w1.heap.size hW (by omega) hx'
    have cW := fun W hW hx' => implWaitsOfQueue_any A xs.length c xs W w1.heap.size hW (by omega) hx'
    have cI := fun W hW hx' => implIdleTicks_any A xs.length c xs W w1.heap.size hW (by omega) hx'
    have cO := fun W hW hx' => implOvertaken_any A xs.length c xs W w1.heap.size hW (by omega) hx'
    rw [e6, e4] at cA
    rw [e3, e4] at cS
    rw [e5, e4] at cW
    rw [e4] at cI
    rw [e7, e4] at cO
    have i0 := idle_pos hv
    have o0 := orderQ_all (age := 0) hv
    have o1 : (startsQ xs 0).length = xs.length := (startsQ_inv hv).1
    have o2 : (waitsQ xs).length = xs.length := by rw [waitsQ_len hv, o1]
    have o3 := overQ_len hv
    have HV := hid hv
    have HX := hid hx
    have II := hid (@idle_end xs hv)
    have IN := hid (@idle_nil xs)
    clear e3 e4 e5 e6 e7 ho hs hv hx
    generalize idleRes xs = D at *
    go_wp2_with fail
    refine (cA _ (Nat.le_refl _) HX.out).mono ?_
    rintro r w2 ⟨Aa, ma, ca, rfl, oa, b2⟩
    obtain rfl := lists_len oa o1
    have c2 := b2
    go_wp2_with fail
    refine (cS _ c2.size (HX.out.below c2)).mono ?_
    rintro r w3 ⟨Ab, mb, cb, rfl, ob, b3⟩
    obtain rfl := lists_len ob o0.2.2
    have kb := own_cap ob
    have c3 := c2.trans (b3.mono c2.size)
    go_wp2_with fail
    refine (cW _ c3.size (HX.out.below c3)).mono ?_
    rintro r w4 ⟨Ac, mc, cc, rfl, oc, b4⟩
    obtain rfl := lists_len oc o2
    have c4 := c3.trans (b4.mono c3.size)
    go_wp2_with fail
    refine (cI _ c4.size (HX.out.below c4)).mono ?_
    rintro r w5 ⟨rfl, b5⟩
    have c5 := c4.trans (b5.mono c4.size)
    go_wp2_with fail
    refine (cO _ c5.size (HX.out.below c5)).mono ?_
    rintro r w6 ⟨Ad, md, cd, rfl, od, b6⟩
    obtain rfl := lists_len od o3
    have c6 := c5.trans (b6.mono c5.size)
    have sa := own_sl encI_len (by omega) (own_below (own_below (own_below (own_below oa b3) b4) b5) b6)
    have sb := own_sl encI_len (by omega) (own_below (own_below (own_below ob b4) b5) b6)
    have sc := own_sl encI_len (by omega) (own_below (own_below oc b5) b6)
    have sd := own_sl encI_len (by omega) od
    have hx6 := HX.out.below c6
    have hb6 : Below w.heap.size w w6 := b1.trans (c6.mono b1.size)
    have SA := hid sa
    have SB := hid sb
    have SC := hid sc
    have SD := hid sd
    have HX6 := hid hx6
    have hB6 := c6.size
    clear cA cS cW cI cO oa ob oc od b2 b3 b4 b5 b6 c2 c3 c4 c5 c6 sa sb sc sd hx6 b1 HX o0 o1 o2 o3
    go_wp2_with fail
    go_loopw [15, 16, 17] (fun a q j wl => ∃ (i : Nat) (at' wk : Int), i ≤ xs.length ∧ j = .int .i64 i ∧ a = .int .i64 at' ∧ q = .int .i64 wk ∧ Hid (atK xs (orderQ xs 0) (startsQ xs 0) i = at' ∧ workK xs (orderQ xs 0) i = wk) ∧ Below w6.heap.size w6 wl) (fun _ _ j _ => xs.length - (intOf j).toNat)
    case atStart => exact ⟨0, 0, 0, Nat.zero_le _, rfl, rfl, rfl, hid ⟨rfl, rfl⟩, Below.refl _ _⟩
    case round =>
      obtain ⟨i, at', wk, hi, rfl, rfl, rfl, hat, hb⟩ := hrel
      obtain ⟨bw0, bw1, bw2⟩ := at_bd HV.out hi
      rw [hat.out.1, hat.out.2] at bw1
      rw [hat.out.2] at bw0
      rw [hat.out.1] at bw2
      by_cases hin : i < xs.length
      · obtain ⟨k, ⟨xa, xt, xc⟩, s, ho, hk, hxk, hsk, hnk, S1, S2, S3, S4, S5, S6⟩ := sent_at HV.out hin
        rw [hat.out.1] at S1 S6
        rw [hat.out.2] at S4
        simp only at S2 S3 S4 S5 S6
        obtain ⟨s', hs', bs0, bs1⟩ := starts_at HV.out hk
        obtain rfl : s = s' := by rw [hsk] at hs'; injection hs'
        obtain ⟨v0, v1, v2, v3, v4, v5⟩ := validQ_item HV.out hxk
        simp only at v0 v1 v2 v3 v4 v5
        have hwk : (waitsQ xs)[k]? = some (s - xa) := waitsQ_at hxk hsk
        obtain ⟨b, off, rfl, hbB, k0, k1, k2⟩ := (HX6.out.below (hb.mono hB6)).itemAt' hk hxk
        obtain ⟨bb, ob, rfl, hbb, kb0⟩ := (SB.out.below hb).intAt ho
        obtain ⟨ba, oa, rfl, hba, ka0⟩ := (SA.out.below hb).intAt hsk
        obtain ⟨bc, oc, rfl, hbc, kc0⟩ := (SC.out.below hb).intAt hwk
        have cH := fun W (h : Below w6.heap.size w6 W) (z : Int) => a2Has_any (some ⟨bb, ob, none⟩) i cb ((orderQ xs 0).take i) z W w6.heap.size (by omega) ((SB.out.below h).take (by omega))
        have hS5 := hid S5
        have hS6 := hid S6
        have hS3 := hid (And.intro S3 S4)
        have hS4 := hid hnk
        have hM1 : (if at' < s then s else at') = s := by split <;> omega
        have hW1 : IntKind.i64.wrap (s - xa) = s - xa := IntWalk.i64_in _ (by omega)
        have hW2 : IntKind.i64.wrap (s + xt) = s + xt := IntWalk.i64_in _ (by omega)
        have hW3 : IntKind.i64.wrap (wk + xt) = wk + xt := IntWalk.i64_in _ (by omega)
        have cH1 := cH wr hb (k : Int)
        rw [hnk] at cH1
        have j0 : (0 : Int) ≤ (k : Int) := by omega
        have j1 : (k : Int) < (xs.length : Int) := by omega
        have lb : b < wr.heap.size := by have := hb.size; omega
        have lbb : bb < wr.heap.size := by have := hb.size; omega
        have lba : ba < wr.heap.size := by have := hb.size; omega
        have lbc : bc < wr.heap.size := by have := hb.size; omega
        have hal := hb.alloc hb.size (.cells #[.int .i64 xa, .int .i64 xt, .int .i64 xc] 43)
        have CH := hid cH
        clear S3 S4 S5 S6 hnk hs' hxk hsk hwk ho hat cH II IN SD i0
        obtain ⟨wo, rfl⟩ : ∃ wo : World, wo = wr := ⟨_, rfl⟩
        go_wp2_with fail
        refine cH1.mono ?_
        rintro r w9 ⟨rfl, e⟩
        replace e := e.symm
        subst e
        clear cH1
        go_wp2_with fail
        go_quiet (fail)
        go_wp2_with fail
        have hbs0 : Below (wo.heap.size + 1) (wo.alloc (.cells #[.int .i64 xa, .int .i64 xt, .int .i64 xc] 43)) ((wo.alloc (.cells #[.int .i64 xa, .int .i64 xt, .int .i64 xc] 43)).drewN nq) := below_drewN (Below.refl _ _) nq
        go_loopw [20, 21] (fun q m wl => ∃ (j : Nat) (z : Int), j ≤ xs.length ∧ m = .int .i64 j ∧ q = .int .i64 z ∧ Hid (Soon xs ((orderQ xs 0).take i) xa j z) ∧ Below (wo.heap.size + 1) (wo.alloc (.cells #[.int .i64 xa, .int .i64 xt, .int .i64 xc] 43)) wl) (fun _ m _ => xs.length - (intOf m).toNat)
        case atStart => exact ⟨0, xa, Nat.zero_le _, rfl, rfl, hid (Soon.zero _ _ _), hbs0⟩
        case round =>
          obtain ⟨j, z, hj, rfl, rfl, hso, hb2⟩ := hrel
          have hws := hb2.size
          rw [World.size_alloc] at hws
          have hb3 : Below w6.heap.size w6 wr := hal.trans (hb2.mono (by have := hb.size; omega))
          have cx0 : wr.cell? ⟨wo.heap.size, 0, none⟩ = some (.int .i64 xa) := by
            rw [hb2.cell (p := ⟨wo.heap.size, 0, none⟩) (by simp)]
            exact (World.cell?_alloc_at _ _ _ _ rfl).trans rfl
          have cx1 : wr.cell? ⟨wo.heap.size, 1, none⟩ = some (.int .i64 xt) := by
            rw [hb2.cell (p := ⟨wo.heap.size, 1, none⟩) (by simp)]
            exact (World.cell?_alloc_at _ _ _ _ rfl).trans rfl
          have cx2 : wr.cell? ⟨wo.heap.size, 2, none⟩ = some (.int .i64 xc) := by
            rw [hb2.cell (p := ⟨wo.heap.size, 2, none⟩) (by simp)]
            exact (World.cell?_alloc_at _ _ _ _ rfl).trans rfl
          have hb2o : Below wo.heap.size wo wr := ((Below.refl _ _).alloc (Nat.le_refl _) (.cells #[.int .i64 xa, .int .i64 xt, .int .i64 xc] 43)).trans (hb2.mono (by omega))
          have ks := below_cell ka0 hb2o
          clear kb0 kc0 ka0 k0 k1 k2
          by_cases hjn : j < xs.length
          · obtain ⟨x', y', z', b', off', Hx', e', hbB', c0', c1', c2'⟩ := (HX6.out.below (hb3.mono hB6)).item hjn
            injection e' with e'
            injection e' with e1 e2
            subst e1 e2
            have cHj := CH.out wr hb3 (j : Int)
            have key := hS5.out j _ Hx'.out
            simp only at key
            have j2 : (0 : Int) ≤ (j : Int) := by omega
            have j3 : (j : Int) < (xs.length : Int) := by omega
            have l0 : wo.heap.size < wr.heap.size := by omega
            have l1 : ba < wr.heap.size := by omega
            have l2 : b < wr.heap.size := by omega
            cases hh : hasI ((orderQ xs 0).take i) (j : Int) with
            | true =>
              rw [hh] at cHj
              have hs2 := hid (hso.out.skip hh)
              clear hso hh key
              go_wp2_with fail
              refine cHj.mono ?_
              rintro r w9 ⟨rfl, e⟩
              replace e := e.symm
              subst e
              clear cHj
              go_wp2_with fail
              go_roundw
              all_goals first | exact ⟨j + 1, z, by omega, by go_num, rfl, hs2, hb2⟩ | exact ⟨⟨j + 1, z, by omega, by go_num, rfl, hs2, hb2⟩, by simp [intOf]; omega⟩ | (simp [intOf]; omega)
            | false =>
              rw [hh] at cHj
              have key2 := key hh
              have hcase : (¬ x' ≤ s ∨ (x' ≤ s ∧ ¬ z' < xc ∧ ¬ z' = xc)) ∨ (x' ≤ s ∧ z' = xc ∧ ¬ x' < xa) := by omega
              have hmin : ∃ q, (if x' < z then x' else z) = q ∧ Hid (Soon xs ((orderQ xs 0).take i) xa (j + 1) q) := by
                by_cases hq : x' < z
                · exact ⟨x', by rw [if_pos hq], hid (hso.out.less Hx'.out hh (by simp only; omega))⟩
                · exact ⟨z, by rw [if_neg hq], hid (hso.out.keep Hx'.out (by simp only; omega))⟩
              obtain ⟨q, hq, hs2⟩ := hmin
              clear hso hh key key2
              rcases hcase with (d1 | ⟨d1, d2, d3⟩) | ⟨d1, d2, d3⟩
              · have f1 : decide (x' ≤ s) = false := by simpa using d1
                go_wp2_with fail
                refine cHj.mono ?_
                rintro r w9 ⟨rfl, e⟩
                replace e := e.symm
                subst e
                clear cHj
                go_wp2_with fail
                go_quiet (fail)
                go_wp2_with fail
                have hb4 := below_drewN hb2 nq
                go_roundw
                all_goals first | exact ⟨j + 1, q, by omega, by go_num, rfl, hs2, hb4⟩ | exact ⟨⟨j + 1, q, by omega, by go_num, rfl, hs2, hb4⟩, by simp [intOf]; omega⟩ | (simp [intOf]; omega)
              · have f1 : decide (x' ≤ s) = true := by simpa using d1
                have f2 : decide (z' < xc) = false := by simpa using d2
                have f3 : (z' == xc) = false := by simpa using d3
                go_wp2_with fail
                refine cHj.mono ?_
                rintro r w9 ⟨rfl, e⟩
                replace e := e.symm
                subst e
                clear cHj
                go_wp2_with fail
                go_quiet (fail)
                go_wp2_with fail
                have hb4 := below_drewN hb2 nq
                go_roundw
                all_goals first | exact ⟨j + 1, q, by omega, by go_num, rfl, hs2, hb4⟩ | exact ⟨⟨j + 1, q, by omega, by go_num, rfl, hs2, hb4⟩, by simp [intOf]; omega⟩ | (simp [intOf]; omega)
              · have f1 : decide (x' ≤ s) = true := by simpa using d1
                have f3 : decide (x' < xa) = false := by simpa using d3
                subst d2
                go_wp2_with fail
                refine cHj.mono ?_
                rintro r w9 ⟨rfl, e⟩
                replace e := e.symm
                subst e
                clear cHj
                go_wp2_with fail
                go_quiet (fail)
                go_wp2_with fail
                have hb4 := below_drewN hb2 nq
                go_roundw
                all_goals first | exact ⟨j + 1, q, by omega, by go_num, rfl, hs2, hb4⟩ | exact ⟨⟨j + 1, q, by omega, by go_num, rfl, hs2, hb4⟩, by simp [intOf]; omega⟩ | (simp [intOf]; omega)
          · have hjl : j = xs.length := by omega
            subst hjl
            have hE := hS6.out z hso.out
            have hM2 : (if at' < z then z else at') = s := by split <;> omega
            have hat2 : Hid (atK xs (orderQ xs 0) (startsQ xs 0) (i + 1) = s + xt ∧ workK xs (orderQ xs 0) (i + 1) = wk + xt) := hS3
            have l0 : wo.heap.size < wr.heap.size := by omega
            have l1 : ba < wr.heap.size := by omega
            clear hso hE hS3 hS5 hS6
            go_wp2_with fail
            go_quiet (fail)
            go_wp2_with fail
            have hb4 := below_drewN hb3 nq
            go_roundw
            all_goals first | exact ⟨i + 1, s + xt, wk + xt, by omega, by go_num, rfl, rfl, hat2, hb4⟩ | exact ⟨⟨i + 1, s + xt, wk + xt, by omega, by go_num, rfl, rfl, hat2, hb4⟩, by simp [intOf]; omega⟩ | (simp [intOf]; omega)
      · have hil : i = xs.length := by omega
        subst hil
        have hD : (xs.length = 0 ∧ D = 0) ∨ (0 < xs.length ∧ at' - wk = D) := by
          rcases Nat.eq_zero_or_pos xs.length with h | h
          · exact .inl ⟨h, IN.out h⟩
          · exact .inr ⟨h, by rw [II.out h, hat.out.1, hat.out.2]⟩
        have HD := hid hD
        clear hD II IN hat
        go_wp2_with fail
        go_loopw [22] (fun m wl => ∃ j : Nat, j ≤ xs.length ∧ m = .int .i64 j ∧ Below w6.heap.size w6 wl) (fun m _ => xs.length - (intOf m).toNat)
        case atStart => exact ⟨0, Nat.zero_le _, rfl, hb⟩
        case round =>
          obtain ⟨m, hm, rfl, hb7⟩ := hrel
          clear hb
          by_cases hmn : m < xs.length
          · obtain ⟨x, y, z, b, off, Hx, rfl, hbB, c0, c1, c2⟩ := (HX6.out.below (hb7.mono hB6)).item hmn
            obtain ⟨s, ba, oa, Hs, rfl, hba, cs0⟩ := (SA.out.below hb7).int hmn
            obtain ⟨bd, od, rfl, hbd, cd0⟩ := (SD.out.below hb7).intAt (overQ_at Hx.out Hs.out)
            have HXr := hid (HX6.out.below (hb7.mono hB6))
            have SAr := hid (SA.out.below hb7)
            have PL := hid (pairsQ_len HV.out)
            have m0 : (0 : Int) ≤ (m : Int) := by omega
            have m1 : (m : Int) < (xs.length : Int) := by omega
            obtain ⟨wo, rfl⟩ : ∃ wo : World, wo = wr := ⟨_, rfl⟩
            have hsz := hb7.size
            go_wp2_with fail
            go_loopw [23, 24] (fun q kk wl => ∃ (j : Nat) (cv : Int), j ≤ xs.length ∧ kk = .int .i64 j ∧ q = .int .i64 cv ∧ 0 ≤ cv ∧ cv ≤ (j : Nat) ∧ Hid (overCnt x s 0 (pairsQ xs) = overCnt x s cv ((pairsQ xs).drop j)) ∧ Below wo.heap.size wo wl) (fun _ kk _ => xs.length - (intOf kk).toNat)
            case atStart => exact ⟨0, 0, Nat.zero_le _, rfl, rfl, by omega, by omega, hid rfl, Below.refl _ _⟩
            case round =>
              obtain ⟨j, cv, hj, rfl, rfl, v0, v1, hcv, hb8⟩ := hrel
              have c0' := below_cell c0 hb8
              have cs' := below_cell cs0 hb8
              have cd' := below_cell cd0 hb8
              have hsz8 := hb8.size
              clear c0 c1 c2 cs0 cd0
              by_cases hjn : j < xs.length
              · obtain ⟨x2, y2, z2, b2, off2, Hx2, e', hbB2, d0, d1, d2⟩ := (HXr.out.below (hb8.mono (by omega))).item hjn
                injection e' with e'
                injection e' with e1 e2
                subst e1 e2
                obtain ⟨s2, ba2, oa2, Hs2, e', hba2, d3⟩ := (SAr.out.below (hb8.mono (by omega))).int hjn
                injection e' with e'
                injection e' with e1 e2
                subst e1 e2
                have he2 := hcv.out
                rw [drop_at (pairsQ_at Hx2.out Hs2.out), overCnt] at he2
                simp only at he2
                have j2 : (0 : Int) ≤ (j : Int) := by omega
                have j3 : (j : Int) < (xs.length : Int) := by omega
                have l1 : b < wr.heap.size := by omega
                have l2 : ba < wr.heap.size := by omega
                clear hcv cd'
                by_cases q1 : x < x2
                · have dq1 : decide (x < x2) = true := by simpa using q1
                  by_cases q2 : s2 < s
                  · rw [if_pos ⟨q1, q2⟩] at he2
                    have He3 := hid he2
                    clear he2
                    go_wp2_with fail
                    go_quiet (fail)
                    go_wp2_with fail
                    have hb9 := below_drewN hb8 nq
                    go_roundw
                    all_goals first | exact ⟨j + 1, cv + 1, by omega, by go_num, rfl, by omega, by omega, He3, hb9⟩ | exact ⟨⟨j + 1, cv + 1, by omega, by go_num, rfl, by omega, by omega, He3, hb9⟩, by simp [intOf]; omega⟩ | (simp [intOf]; omega)
                  · rw [if_neg (by omega)] at he2
                    have He3 := hid he2
                    clear he2
                    go_wp2_with fail
                    go_quiet (fail)
                    go_wp2_with fail
                    have hb9 := below_drewN hb8 nq
                    go_roundw
                    all_goals first | exact ⟨j + 1, cv, by omega, by go_num, rfl, by omega, by omega, He3, hb9⟩ | exact ⟨⟨j + 1, cv, by omega, by go_num, rfl, by omega, by omega, He3, hb9⟩, by simp [intOf]; omega⟩ | (simp [intOf]; omega)
                · rw [if_neg (by omega)] at he2
                  have dq1 : decide (x < x2) = false := by simpa using q1
                  have He3 := hid he2
                  clear he2
                  go_wp2_with fail
                  go_quiet (fail)
                  go_wp2_with fail
                  have hb9 := below_drewN hb8 nq
                  go_roundw
                  all_goals first | exact ⟨j + 1, cv, by omega, by go_num, rfl, by omega, by omega, He3, hb9⟩ | exact ⟨⟨j + 1, cv, by omega, by go_num, rfl, by omega, by omega, He3, hb9⟩, by simp [intOf]; omega⟩ | (simp [intOf]; omega)
              · have hjl : j = xs.length := by omega
                subst hjl
                have he2 := hcv.out
                rw [List.drop_of_length_le (by rw [PL.out]; omega), overCnt] at he2
                rw [he2] at cd'
                have hb9 : Below w6.heap.size w6 wr := hb7.trans (hb8.mono hsz)
                clear hcv he2 hb8 hb7
                go_wp2_with fail
                go_roundw
                all_goals first | exact ⟨m + 1, by omega, by go_num, hb9⟩ | exact ⟨⟨m + 1, by omega, by go_num, hb9⟩, by simp [intOf]; omega⟩ | (simp [intOf]; omega)
          · have hml : m = xs.length := by omega
            subst hml
            rcases HD.out with ⟨h1, h2⟩ | ⟨h1, h2⟩
            · have f1 : ((xs.length : Int) == 0) = true := by rw [h1]; rfl
              subst h2
              go_wp2_with fail
              go_ret
              exact ⟨rfl, hb6.trans (hb7.mono hb6.size)⟩
            · have f1 : ((xs.length : Int) == 0) = false := by rw [beq_eq_false_iff_ne]; omega
              have f2 : IntKind.i64.wrap (at' - wk) = D := by rw [h2]; exact IntWalk.i64_in _ (by omega)
              go_wp2_with fail
              go_ret
              exact ⟨rfl, hb6.trans (hb7.mono hb6.size)⟩
end Go.Proofs.Ytfhlooegeklpaaa
