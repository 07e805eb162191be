/-
  The statement on aged queues, walked. No condition.
-/
import Derived.Test.YtfhlooegeklpaaaQDraw
import Derived.Test.YtfhlooegeklpaaaQPlain6
import Derived.Test.YtfhlooegeklpaaaQFn3
namespace Go.Proofs.Ytfhlooegeklpaaa
open Go.RowKit
set_option maxHeartbeats 400000

theorem waitsQ_in {xs : List Item} (hv : validQ xs = true) {k : Nat} {z : Int} (hz : (waitsQ xs)[k]? = some z) : 0 ≤ z ∧ z ≤ 22000 := by
  have hl := (List.getElem?_eq_some_iff.1 hz).1
  rw [waitsQ_len hv, (startsQ_inv hv).1] at hl
  obtain ⟨s, hs, h0, h1⟩ := starts_at hv hl
  have hx := List.getElem?_eq_getElem hl
  rw [waitsQ_at hx hs] at hz
  have hb := validQ_item hv hx
  have hla := startsQ_late hv hx hs
  injection hz with hz
  omega
theorem orderQ_length {xs : List Item} {age : Int} (hv : validQ xs = true) : (orderQ xs age).length = xs.length := (orderQ_all hv).2.2
theorem lists_len {w : World} {lo T n : Nat} {v : Value} {l : List Int} {m : Nat} (h : w.ownsRow lo T 1 v n (l.flatMap encI)) (hl : l.length = m) : n = m := by
  have h1 := h.1
  rw [flatMap_len encI_len, hl, Nat.mul_one] at h1
  omega
theorem meanF_small {xs : List Item} (hv : validQ xs = true) {cl : Int} (h0 : 0 ≤ cl) (h9 : cl ≤ 9) {sq : Int} {mq : Nat} (h : clS cl xs (waitsQ xs) xs.length = (sq, mq)) : meanF xs cl = if mq = 0 then ((0, 0), 3) else (lowF sq mq, 0) := by
  have hi : inR cl 0 9 = true := by simp [inR]; omega
  simp only [meanF, hv, hi, h, if_true]
set_option maxHeartbeats 4000000 in
set_option maxRecDepth 100000 in
theorem FnAged_walk (v : Value) (w : World) (hv : Bytes w w.heap.size 9223372036854775807 v) :
    Calls Try.prog 5 #[v] w fun r w' => r = .returned (.bool true) ∧ Below w.heap.size w w' := by
  obtain ⟨A, n, c, bs, rfl, hn, hbx, hbz⟩ := hv
  have hlong := fun W => a2Long_any A n c none 0 0 W hn (by omega)
  by_cases h3 : 3000 < n
  · have e : (decide (3000 < n) || decide (3000 < 0)) = true := by simp [h3]
    rw [e] at hlong
    clear hbx hbz h3 e
    go_enter Try.func5, Try.ntmps5
    go_wp2_with fail
    refine (hlong _).mono ?_
    rintro r w1 ⟨rfl, e⟩
    replace e := e.symm
    subst e
    go_wp2_with fail
    go_ret
    exact ⟨rfl, Below.refl _ _⟩
  · have e : (decide (3000 < n) || decide (3000 < 0)) = false := by simp [h3]
    rw [e] at hlong
    have hq := A2Queue_any (.slice A n c) w ⟨A, n, c, bs, rfl, by omega, hbx, hbz⟩
    clear hbx hbz h3 e
    go_enter Try.func5, Try.ntmps5
    go_wp2_with fail
    refine (hlong _).mono ?_
    rintro r w1 ⟨rfl, e⟩
    replace e := e.symm
    subst e
    go_wp2_with fail
    refine hq.mono ?_
    rintro r w1 ⟨A, c, xs, rfl, hs, ho, _, b1⟩
    clear hq hlong
    have hv := smallQ_valid hs
    have h8 := smallQ_len hs
    have hx := own_sl encItem_len (by omega) ho
    have e1 : agedRes xs 10000 = orderQ xs 0 := by rw [aged_small hs]; simp [orderRes, hv]
    have e2 : agedCode xs 10000 = 0 := by simp only [agedCode, hv]; rfl
    have e3 : orderRes xs = orderQ xs 0 := by simp [orderRes, hv]
    have e4 : codeQ xs = 0 := by simp [codeQ, hv]
    have e5 : waitsRes xs = waitsQ xs := by simp [waitsRes, hv]
    have e6 : agedCode xs 1 = 0 := by simp only [agedCode, hv]; rfl
    have e7 : agedRes xs 1 = orderQ xs 1 := by simp only [agedRes, hv]; rfl
    have cA := fun W hW hx' => implAgedOrder_any A xs.length c xs 10000 W w1.heap.size hW (by omega) hx'
    have cB := fun W hW hx' => implAgedOrder_any A xs.length c xs 1 W w1.heap.size hW (by omega) hx'
    have cS := fun W hW hx' => implServedOrder_any A xs.length c xs W w1.heap.size hW (by omega) hx'
    have cL := fun W hW hx' => implLongestQueue_any A xs.length c xs W w1.heap.size hW (by omega) hx'
    have cW := fun W hW hx' => implWaitsOfQueue_any A xs.length c xs W w1.heap.size hW (by omega) hx'
    have cM := fun cl W hW hx' => implMeanWait_any A xs.length c xs cl W w1.heap.size hW (by omega) hx'
    rw [e1, e2] at cA
    rw [e7, e6] at cB
    rw [e3, e4] at cS
    rw [e4] at cL
    rw [e5, e4] at cW
    have lb := longRes_bd hv
    have lw := long_wait hv
    have wz : ∀ (k : Nat) (z : Int), (waitsQ xs)[k]? = some z → 0 ≤ z ∧ z ≤ 22000 := fun k z => waitsQ_in hv
    have wl : (waitsQ xs).length = xs.length := by rw [waitsQ_len hv, (startsQ_inv hv).1]
    have o0 := orderQ_length (age := 0) hv
    have o1 := orderQ_length (age := 1) hv
    have HV := hid hv
    have CM := hid cM
    clear e1 e2 e3 e4 e5 e6 e7 ho hs hv cM
    have WZ := hid wz
    have WL := hid wl
    clear wz wl
    have HX := hid hx
    generalize hgw : waitsQ xs = ws at *
    have HGW := hid hgw
    generalize longRes xs = L at *
    obtain ⟨L0, L1⟩ := lb
    have LS : (L = 0 ∧ sumI ws = 0) ∨ (L ≠ 0 ∧ sumI ws ≠ 0) := by
      by_cases hL : L = 0 <;> by_cases hS : sumI ws = 0 <;> simp [hL, hS] at lw ⊢
    clear lw hgw hx
    go_wp2_with fail
    refine (cA _ (Nat.le_refl _) HX.out).mono ?_
    rintro r w2 ⟨Aa, ma, ca, rfl, oa, b2⟩
    obtain rfl := lists_len oa o0
    have c2 := b2
    go_wp2_with fail
    refine (cS _ c2.size (HX.out.below c2)).mono ?_
    rintro r w3 ⟨Ab, mb, cb, rfl, ob, b3⟩
    obtain rfl := lists_len ob o0
    have c3 := c2.trans (b3.mono c2.size)
    go_wp2_with fail
    refine (cL _ c3.size (HX.out.below c3)).mono ?_
    rintro r w4 ⟨rfl, b4⟩
    have c4 := c3.trans (b4.mono c3.size)
    go_wp2_with fail
    refine (cW _ c4.size (HX.out.below c4)).mono ?_
    rintro r w5 ⟨Ac, mc, cc, rfl, oc, b5⟩
    obtain rfl := lists_len oc WL.out
    have c5 := c4.trans (b5.mono c4.size)
    go_wp2_with fail
    refine (cB _ c5.size (HX.out.below c5)).mono ?_
    rintro r w6 ⟨Ad, md, cd, rfl, od, b6⟩
    obtain rfl := lists_len od o1
    have c6 := c5.trans (b6.mono c5.size)
    have sa := own_sl encI_len (by omega) (own_below (own_below (own_below (own_below oa b3) b4) b5) b6)
    have sb := own_sl encI_len (by omega) (own_below (own_below (own_below ob b4) b5) b6)
    have sc := own_sl encI_len (by omega) (own_below oc b6)
    have hx6 := HX.out.below c6
    have cSame := fun W (h : Below w6.heap.size w6 W) => a2Same_yes Aa _ ca Ab _ cb (orderQ xs 0) W w6.heap.size (by omega) (sa.below h) (sb.below h)
    have cSum := fun W (h : Below w6.heap.size w6 W) => a2Sum_any Ac _ cc ws W w6.heap.size (by omega) (fun z hz => by obtain ⟨k, hk⟩ := List.mem_iff_getElem?.1 hz; have := WZ.out k z hk; omega) (sc.below h)
    have hb6 : Below w.heap.size w w6 := b1.trans (c6.mono b1.size)
    have SC := hid sc
    have HX6 := hid hx6
    have hB6 := c6.size
    clear cA cB cS cL cW oa ob oc od b2 b3 b4 b5 b6 c2 c3 c4 c5 c6 sa sb sc hx6 b1
    generalize sumI ws = S at *
    have LS2 : ((L == 0) = true ∧ (S == 0) = true) ∨ ((L == 0) = false ∧ (S == 0) = false) := by
      rcases LS with ⟨h1, h2⟩ | ⟨h1, h2⟩
      · exact .inl ⟨by simpa using h1, by simpa using h2⟩
      · exact .inr ⟨by simpa using h1, by simpa using h2⟩
    clear LS
    rcases LS2 with ⟨hL, hS⟩ | ⟨hL, hS⟩
    all_goals
      go_wp2_with (go_at_call 22; refine (cSame _ (Below.refl _ _)).mono ?_; rintro r w7 ⟨rfl, b7⟩)
      refine (cSum _ b7).mono ?_
      rintro r w8 ⟨rfl, e⟩
      replace e := e.symm
      subst e
      have hc7 := b7
      clear cSame cSum b7
      go_wp2_with fail
      go_loopw [14] (fun i wl => ∃ k : Nat, k ≤ 4 ∧ i = .int .i64 k ∧ Below w6.heap.size w6 wl) (fun i _ => 4 - (intOf i).toNat)
      case atStart => exact ⟨0, by omega, rfl, hc7⟩
      case round =>
        obtain ⟨k, hk, rfl, hb⟩ := hrel
        clear hc7
        by_cases hlt : k < 4
        · have CL := hid (clS_bd (cl := (k : Int)) (xs := xs) (ws := ws) WZ.out)
          go_wp2_with fail
          go_loopw [15, 16, 17] (fun q m j wl => ∃ (i : Nat) (sq : Int) (mq : Nat), i ≤ xs.length ∧ j = .int .i64 i ∧ q = .int .i64 sq ∧ m = .int .i64 mq ∧ Hid (clS (k : Int) xs ws i = (sq, mq)) ∧ wl = wr) (fun _ _ j _ => xs.length - (intOf j).toNat)
          case atStart => exact ⟨0, 0, 0, Nat.zero_le _, rfl, rfl, rfl, hid rfl, rfl⟩
          case round =>
            obtain ⟨i, sq, mq, hi, rfl, rfl, rfl, hcl, rfl⟩ := hrel
            have bd := CL.out i
            rw [hcl.out] at bd
            simp only at bd
            obtain ⟨q0, q1, m1⟩ := bd
            by_cases hin : i < xs.length
            · obtain ⟨x, y, z, b, off, Hx, rfl, hbB, k0, k1, k2⟩ := (HX6.out.below (hb.mono hB6)).item hin
              obtain ⟨d, b', off', Hd, rfl, hbB', kd⟩ := (SC.out.below hb).int hin
              have wd := WZ.out i d Hd.out
              by_cases hz : z = (k : Int)
              · have hc2 : Hid (clS (k : Int) xs ws (i + 1) = (sq + d, mq + 1)) := by rw [Hid, clS_yes Hx.out Hd.out hz, hcl.out]
                subst hz
                clear hcl
                go_wp2_with fail
                go_roundw
                all_goals first | exact ⟨i + 1, sq + d, mq + 1, by omega, by go_num, rfl, by go_num, hc2, by trivial⟩ | exact ⟨⟨i + 1, sq + d, mq + 1, by omega, by go_num, rfl, by go_num, hc2, by trivial⟩, by simp [intOf]; omega⟩ | (simp [intOf]; omega)
              · have hc2 : Hid (clS (k : Int) xs ws (i + 1) = (sq, mq)) := by rw [Hid, clS_no Hx.out Hd.out hz, hcl.out]
                have hz2 : (z == (k : Int)) = false := by simpa using hz
                clear hcl hz
                go_wp2_with fail
                go_roundw
                all_goals first | exact ⟨i + 1, sq, mq, by omega, by go_num, rfl, rfl, hc2, by trivial⟩ | exact ⟨⟨i + 1, sq, mq, by omega, by go_num, rfl, rfl, hc2, by trivial⟩, by simp [intOf]; omega⟩ | (simp [intOf]; omega)
            · have hil : i = xs.length := by omega
              have hcc := hcl.out
              rw [hil, ← HGW.out] at hcc
              have hm := meanF_small HV.out (by omega) (by omega) hcc
              have cm := CM.out (k : Int) wr (Nat.le_trans hB6 hb.size) (HX6.out.below (hb.mono hB6))
              rw [hm] at cm
              clear hcl hcc hm
              by_cases hmq : mq = 0
              · rw [if_pos hmq] at cm
                subst hmq
                go_wp2_with fail
                refine cm.mono ?_
                rintro r w9 ⟨rfl, b9⟩
                clear cm
                have hb9 := hb.trans (b9.mono hb.size)
                go_wp2_with fail
                have hb10 := hb9.alloc hb9.size (.cells #[.int .i64 0, .int .i64 0] 25)
                go_roundw
                all_goals first | exact ⟨k + 1, by omega, by go_num, hb10⟩ | exact ⟨⟨k + 1, by omega, by go_num, hb10⟩, by simp [intOf]; omega⟩ | (simp [intOf]; omega)
              · rw [if_neg hmq] at cm
                have hqb : sq ≤ 176000 := by omega
                obtain ⟨d1, d2, d3, d4, d5⟩ := lowF_ok (a := sq) (c := mq) q0 (by omega)
                generalize lowF sq mq = nd at cm d1 d2 d3 d4 d5
                obtain ⟨num, den⟩ := nd
                simp only at cm d1 d2 d3 d4 d5
                have m8 : (mq : Int) ≤ 8 := by omega
                have m0 : (0 : Int) < (mq : Int) := by omega
                have mz : ((mq : Int) == 0) = false := by simpa using (by omega : ¬ (mq : Int) = 0)
                have p0 : 0 ≤ num * (mq : Int) := Int.mul_nonneg d4 (by omega)
                have p1 : num * (mq : Int) ≤ 176000 * 8 := Int.mul_le_mul (by omega) m8 (by omega) (by omega)
                have p2 : 0 ≤ sq * den := by rw [← d3]; exact p0
                have p3 : sq * den ≤ 176000 * 8 := by rw [← d3]; exact p1
                have D3 : (num * (mq : Int) == sq * den) = true := by simpa using d3
                have D6 : (num * (mq : Int) != sq * den) = false := by simpa using d3
                have D7 : ¬ ((den < 1 ∨ (mq : Int) < den) ∨ (num * (mq : Int) != sq * den) = true) := by
                  rw [D6]
                  rintro ((h | h) | h)
                  · omega
                  · omega
                  · cases h
                clear d3 hmq
                go_wp2_with fail
                refine cm.mono ?_
                rintro r w9 ⟨rfl, b9⟩
                clear cm
                have hb9 := hb.trans (b9.mono hb.size)
                have hb10 := hb9.alloc hb9.size (.cells #[.int .i64 num, .int .i64 den] 25)
                go_wp2_with fail
                go_roundw
                all_goals first | exact ⟨k + 1, by omega, by go_num, hb10⟩ | exact ⟨⟨k + 1, by omega, by go_num, hb10⟩, by simp [intOf]; omega⟩ | (simp [intOf]; omega)
        · go_wp2_with fail
          go_ret
          exact ⟨rfl, hb6.trans (hb.mono hb6.size)⟩
end Go.Proofs.Ytfhlooegeklpaaa
