/-
  ValidScheme: both sides. No condition.
-/
import Derived.Test.YtmanbpobdaamfaaSTube
import Derived.Test.YtmanbpobdaamfaaSTubeS
namespace Go.Proofs.Ytmanbpobdaamfaa
open Go.RowKit
set_option maxHeartbeats 400000

set_option maxHeartbeats 4000000 in
set_option maxRecDepth 100000 in
theorem implValid_any (s : SV) (x : Sch) (w : World) (B : Nat) (hB : B ≤ w.heap.size) (hn : s.n1 ≤ 2000000 ∧ s.n2 ≤ 2000000 ∧ s.n3 ≤ 2000000) (hx : SlX w B s x) (hz : Hid (BigX x)) :
    Calls Try.prog 32 #[s.v] w fun r w' => r = .returned (.bool (validX x)) ∧ Below w.heap.size w w' := by
  obtain ⟨A1, n1, c1, A2, n2, c2, A3, n3, c3⟩ := s
  simp only [SV.v] at hn ⊢
  obtain ⟨hn1, hn2, hn3⟩ := hn
  obtain ⟨x1, x2, x3⟩ := hx
  simp only at x1 x2 x3
  have L1 := hid x1.len
  have L2 := hid x2.len
  have L3 := hid x3.len
  obtain ⟨W0, hW0⟩ : ∃ W0, W0 = (w.alloc (.cells #[.slice A1 n1 c1, .slice A2 n2 c2, .slice A3 n3 c3] 29)).alloc (.cells #[.slice none 0 0, .slice none 0 0, .slice none 0 0] 29) := ⟨_, rfl⟩
  have b0 : Below w.heap.size w W0 := by rw [hW0]; exact ((Below.refl _ _).alloc (Nat.le_refl _) _).alloc (by simp) _
  have z0 : W0.heap.size = w.heap.size + 2 := by rw [hW0]; simp
  have d0 : W0.cell? ⟨w.heap.size, 0, none⟩ = some (.slice A1 n1 c1) := by rw [hW0]; go_simp
  have d1 : W0.cell? ⟨w.heap.size, 1, none⟩ = some (.slice A2 n2 c2) := by rw [hW0]; go_simp
  have d2 : W0.cell? ⟨w.heap.size, 2, none⟩ = some (.slice A3 n3 c3) := by rw [hW0]; go_simp
  have X0 : XAt W0 (w.heap.size + 1) (w.heap.size + 1) ⟨none, 0, 0, none, 0, 0, none, 0, 0⟩ ⟨[], [], []⟩ := by
    refine ⟨?_, ?_, ?_, ?_, ?_, ?_, ⟨World.ownsRow_nil _ _ _ _, World.ownsRow_nil _ _ _ _, World.ownsRow_nil _ _ _ _, fun b h => by simp [Value.ownBlock] at h, fun b h => by simp [Value.ownBlock] at h, fun b h => by simp [Value.ownBlock] at h⟩, by simp [Value.ownBlock], by simp [Value.ownBlock], by simp [Value.ownBlock]⟩
    all_goals rw [hW0]
    all_goals go_simp
  have HZ1 : Hid (∀ z ∈ x.st, z.size ≤ 9223372036854775807) := hz.out.1
  have HZ2 : Hid (∀ z ∈ x.rm, z.size ≤ 9223372036854775807) := hz.out.2.1
  have V := hid (show validX x = (okL stF [] x.st && (okL (rmF x.st) [] x.rm && okL (wyF x.st) [] x.wy)) from rfl)
  have HW := hid hW0
  clear hW0 hz
  go_enter Try.func32, Try.ntmps32
  go_wp2_with fail
  rw [← HW.out]
  have bb : Below (w.heap.size + 1) W0 W0 := Below.refl _ _
  have n20 : 0 ≤ 20 := by omega
  go_loopw [5, 14] (fun _ i wl => ∃ (k : Nat) (s2 : SV), k ≤ n1 ∧ k ≤ 20 ∧ i = .int .i64 k ∧ Hid (XAt wl (w.heap.size + 1) (w.heap.size + 1) s2 ⟨x.st.take k, [], []⟩) ∧ Hid (okL stF [] x.st = okL stF (x.st.take k) (x.st.drop k)) ∧ Below (w.heap.size + 1) W0 wl) (fun _ i _ => n1 - (intOf i).toNat)
  case atStart => exact ⟨0, _, Nat.zero_le _, Nat.zero_le _, rfl, X0, rfl, bb⟩
  case round =>
    obtain ⟨k, s2, hk, hk2, rfl, hX, he, hb⟩ := hrel
    have zb := hb.size
    have e0 : wr.cell? ⟨w.heap.size, 0, none⟩ = some (.slice A1 n1 c1) := (hb.cell (by simp)).trans d0
    have e1 : wr.cell? ⟨w.heap.size, 1, none⟩ = some (.slice A2 n2 c2) := (hb.cell (by simp)).trans d1
    have e2 : wr.cell? ⟨w.heap.size, 2, none⟩ = some (.slice A3 n3 c3) := (hb.cell (by simp)).trans d2
    have hbB : Below B w wr := (b0.trans (hb.mono (by omega))).mono hB
    have hbw : Below w.heap.size w wr := b0.trans (hb.mono (by omega))
    by_cases hlt : k < n1
    · obtain ⟨z, b, off, Hz, rfl, hbb, l0⟩ := (x1.below hbB).str hlt
      have hzs := HZ1.out z (List.mem_of_getElem? Hz.out)
      have he2 := he.out
      rw [okL_at Hz.out] at he2
      have TA := hid (take_at Hz.out)
      have TL : Hid ((x.st.take k).length = k) := by rw [Hid, List.length_take]; have := L1.out; omega
      have hi0 : (0 : Int) ≤ (k : Int) := by omega
      have hi1 : (k : Int) < (n1 : Int) := by omega
      have hc := addStation_any (w.heap.size + 1) (w.heap.size + 1) (w.heap.size + 1) s2 ⟨x.st.take k, [], []⟩ z wr (by omega) (by omega) (by omega) hzs (by rw [TL.out]; exact hk2) hX.out
      by_cases hf : stF (x.st.take k) z = 0
      · have He : Hid (okL stF [] x.st = okL stF (x.st.take (k + 1)) (x.st.drop (k + 1))) := by rw [Hid, he2, hf]; rfl
        have hk3 : k + 1 ≤ 20 := by have := stF_zero hf; rw [TL.out] at this; omega
        have EX : Hid (addSt ⟨x.st.take k, [], []⟩ z = ⟨x.st.take (k + 1), [], []⟩) := by rw [Hid, addSt]; simp only [hf, if_true, TA.out]
        simp only [hf] at hc
        clear he he2 hf x1 x2 x3 hX
        go_wp2_with fail
        refine hc.mono ?_
        rintro r w6 ⟨rfl, ⟨s6, hX6⟩, b6⟩
        rw [EX.out] at hX6
        have HX6 := hid hX6
        clear hX6
        have hb6 := hb.trans b6
        go_wp2_with fail
        go_roundw
        all_goals first | exact ⟨k + 1, s6, by omega, hk3, by go_num, HX6, He, hb6⟩ | exact ⟨⟨k + 1, s6, by omega, hk3, by go_num, HX6, He, hb6⟩, by simp [intOf]; omega⟩ | (simp [intOf]; omega)
      · have Ev : Hid (validX x = false) := by
          rw [Hid, V.out, he2, decide_eq_false hf]; rfl
        obtain ⟨q, hq⟩ : ∃ q, stF (x.st.take k) z = q := ⟨_, rfl⟩
        rw [hq] at hf
        have hq1 : (q == 0) = false := by simpa using hf
        have hq2 : (q != 0) = true := by simpa using hf
        simp only [hq] at hc
        clear he he2 hf hq x1 x2 x3 hX
        go_wp2_with fail
        refine hc.mono ?_
        rintro r w6 ⟨rfl, _, b6⟩
        go_wp2_with fail
        go_ret
        exact ⟨retB Ev.out.symm, hbw.trans (b6.mono (by omega))⟩
    · have hkn : k = n1 := by omega
      subst hkn
      have TE : Hid (x.st.take k = x.st) := List.take_of_length_le (by rw [L1.out]; exact Nat.le_refl _)
      have Eo1 : Hid (okL stF [] x.st = true) := by rw [Hid, he.out]; exact okL_end (by rw [L1.out]; exact Nat.le_refl _)
      have hX2 := hX.out
      rw [TE.out] at hX2
      have X1 := hid hX2
      clear hX hX2 he
      have n20 : x.st.length ≤ 20 := by rw [L1.out]; exact hk2
      have bb := hb
      clear zb hb hbB hbw hlt hk hk2
      go_wp2_with fail
      obtain ⟨wq, hwq⟩ : ∃ wq : World, wq = wr := ⟨_, rfl⟩
      subst hwq
      go_loopw [7, 25] (fun _ i wl => ∃ (k : Nat) (s2 : SV), k ≤ n2 ∧ i = .int .i64 k ∧ Hid (XAt wl (w.heap.size + 1) (w.heap.size + 1) s2 ⟨x.st, x.rm.take k, []⟩) ∧ Hid (okL (rmF x.st) [] x.rm = okL (rmF x.st) (x.rm.take k) (x.rm.drop k)) ∧ Below (w.heap.size + 1) W0 wl) (fun _ i _ => n2 - (intOf i).toNat)
      case atStart => exact ⟨0, _, Nat.zero_le _, rfl, (by simpa [Hid] using X1.out), rfl, bb⟩
      case round =>
        obtain ⟨k, s2, hk, rfl, hX, he, hb⟩ := hrel
        clear bb
        have zb := hb.size
        have e1 : wr.cell? ⟨w.heap.size, 1, none⟩ = some (.slice A2 n2 c2) := (hb.cell (by simp)).trans d1
        have e2 : wr.cell? ⟨w.heap.size, 2, none⟩ = some (.slice A3 n3 c3) := (hb.cell (by simp)).trans d2
        have hbB : Below B w wr := (b0.trans (hb.mono (by omega))).mono hB
        have hbw : Below w.heap.size w wr := b0.trans (hb.mono (by omega))
        by_cases hlt : k < n2
        · obtain ⟨z, b, off, Hz, rfl, hbb, l0⟩ := (x2.below hbB).str hlt
          have hzs := HZ2.out z (List.mem_of_getElem? Hz.out)
          have he2 := he.out
          rw [okL_at Hz.out] at he2
          have TA := hid (take_at Hz.out)
          have TL : Hid ((x.rm.take k).length = k) := by rw [Hid, List.length_take]; have := L2.out; omega
          have hi0 : (0 : Int) ≤ (k : Int) := by omega
          have hi1 : (k : Int) < (n2 : Int) := by omega
          have hc := addRoom_any (w.heap.size + 1) (w.heap.size + 1) (w.heap.size + 1) s2 ⟨x.st, x.rm.take k, []⟩ z wr (by omega) (by omega) (by omega) hzs n20 (by rw [TL.out]; omega) hX.out
          by_cases hf : rmF x.st (x.rm.take k) z = 0
          · have He : Hid (okL (rmF x.st) [] x.rm = okL (rmF x.st) (x.rm.take (k + 1)) (x.rm.drop (k + 1))) := by rw [Hid, he2, hf]; rfl
            have EX : Hid (addRm ⟨x.st, x.rm.take k, []⟩ z = ⟨x.st, x.rm.take (k + 1), []⟩) := by rw [Hid, addRm]; simp only [hf, if_true, TA.out]
            simp only [hf] at hc
            clear he he2 hf x1 x2 x3 hX
            go_wp2_with fail
            refine hc.mono ?_
            rintro r w6 ⟨rfl, ⟨s6, hX6⟩, b6⟩
            rw [EX.out] at hX6
            have HX6 := hid hX6
            clear hX6
            have hb6 := hb.trans b6
            go_wp2_with fail
            go_roundw
            all_goals first | exact ⟨k + 1, s6, by omega, by go_num, HX6, He, hb6⟩ | exact ⟨⟨k + 1, s6, by omega, by go_num, HX6, He, hb6⟩, by simp [intOf]; omega⟩ | (simp [intOf]; omega)
          · have Ev : Hid (validX x = false) := by
              rw [Hid, V.out, he2, decide_eq_false hf]; simp
            obtain ⟨q, hq⟩ : ∃ q, rmF x.st (x.rm.take k) z = q := ⟨_, rfl⟩
            rw [hq] at hf
            have hq1 : (q == 0) = false := by simpa using hf
            have hq2 : (q != 0) = true := by simpa using hf
            simp only [hq] at hc
            clear he he2 hf hq x1 x2 x3 hX
            go_wp2_with fail
            refine hc.mono ?_
            rintro r w6 ⟨rfl, _, b6⟩
            go_wp2_with fail
            go_ret
            exact ⟨retB Ev.out.symm, hbw.trans (b6.mono (by omega))⟩
        · have hkn : k = n2 := by omega
          subst hkn
          have TE : Hid (x.rm.take k = x.rm) := List.take_of_length_le (by rw [L2.out]; exact Nat.le_refl _)
          have Eo2 : Hid (okL (rmF x.st) [] x.rm = true) := by rw [Hid, he.out]; exact okL_end (by rw [L2.out]; exact Nat.le_refl _)
          have hX2 := hX.out
          rw [TE.out] at hX2
          have X2 := hid hX2
          clear hX hX2 he
          have bb := hb
          clear zb hb hbB hbw hlt hk
          go_wp2_with fail
          obtain ⟨wq, hwq⟩ : ∃ wq : World, wq = wr := ⟨_, rfl⟩
          subst hwq
          go_loopw [9, 36] (fun _ i wl => ∃ (k : Nat) (s2 : SV), k ≤ n3 ∧ k ≤ 60 ∧ i = .int .i64 k ∧ Hid (XAt wl (w.heap.size + 1) (w.heap.size + 1) s2 ⟨x.st, x.rm, x.wy.take k⟩) ∧ Hid (okL (wyF x.st) [] x.wy = okL (wyF x.st) (x.wy.take k) (x.wy.drop k)) ∧ Below (w.heap.size + 1) W0 wl) (fun _ i _ => n3 - (intOf i).toNat)
          case atStart => exact ⟨0, _, Nat.zero_le _, Nat.zero_le _, rfl, (by simpa [Hid] using X2.out), rfl, bb⟩
          case round =>
            obtain ⟨k, s2, hk, hk2, rfl, hX, he, hb⟩ := hrel
            clear bb
            have zb := hb.size
            have e2 : wr.cell? ⟨w.heap.size, 2, none⟩ = some (.slice A3 n3 c3) := (hb.cell (by simp)).trans d2
            have hbB : Below B w wr := (b0.trans (hb.mono (by omega))).mono hB
            have hbw : Below w.heap.size w wr := b0.trans (hb.mono (by omega))
            by_cases hlt : k < n3
            · obtain ⟨f, t, m, b, off, Hz, rfl, hbb, l0, l1, l2⟩ := (x3.below hbB).atWay hlt
              have he2 := he.out
              rw [okL_at Hz.out] at he2
              have TA := hid (take_at Hz.out)
              have TL : Hid ((x.wy.take k).length = k) := by rw [Hid, List.length_take]; have := L3.out; omega
              have hi0 : (0 : Int) ≤ (k : Int) := by omega
              have hi1 : (k : Int) < (n3 : Int) := by omega
              obtain ⟨W5, hW5⟩ : ∃ W5, W5 = wr.alloc (.cells #[.string f, .string t, .int .i64 m] 54) := ⟨_, rfl⟩
              have b5 : Below wr.heap.size wr W5 := by rw [hW5]; exact (Below.refl _ _).alloc (Nat.le_refl _) _
              have z5 := b5.size
              have HW5 := hid hW5
              have hc := addWay_any (w.heap.size + 1) (w.heap.size + 1) (w.heap.size + 1) s2 ⟨x.st, x.rm, x.wy.take k⟩ f t m W5 (by omega) (by omega) (by omega) n20 (by rw [TL.out]; exact hk2) (hX.out.below b5)
              have hb5 : Below (w.heap.size + 1) W0 W5 := hb.trans (b5.mono (by omega))
              have hbw5 : Below w.heap.size w W5 := hbw.trans (b5.mono hbw.size)
              clear hW5
              by_cases hf : wyF x.st (x.wy.take k) ⟨f, t, m⟩ = 0
              · have He : Hid (okL (wyF x.st) [] x.wy = okL (wyF x.st) (x.wy.take (k + 1)) (x.wy.drop (k + 1))) := by rw [Hid, he2, hf]; rfl
                have hk3 : k + 1 ≤ 60 := by have := (wyF_zero hf).1; rw [TL.out] at this; omega
                have EX : Hid (addWy ⟨x.st, x.rm, x.wy.take k⟩ ⟨f, t, m⟩ = ⟨x.st, x.rm, x.wy.take (k + 1)⟩) := by rw [Hid, addWy]; simp only [hf, if_true, TA.out]
                simp only [hf] at hc
                clear he he2 hf x1 x2 x3 hX
                go_wp2_with fail
                rw [← HW5.out]
                refine hc.mono ?_
                rintro r w6 ⟨rfl, ⟨s6, hX6⟩, b6⟩
                rw [EX.out] at hX6
                have HX6 := hid hX6
                clear hX6
                have hb6 := hb5.trans b6
                go_wp2_with fail
                go_roundw
                all_goals first | exact ⟨k + 1, s6, by omega, hk3, by go_num, HX6, He, hb6⟩ | exact ⟨⟨k + 1, s6, by omega, hk3, by go_num, HX6, He, hb6⟩, by simp [intOf]; omega⟩ | (simp [intOf]; omega)
              · have Ev : Hid (validX x = false) := by
                  rw [Hid, V.out, he2, decide_eq_false hf]; simp
                obtain ⟨q, hq⟩ : ∃ q, wyF x.st (x.wy.take k) ⟨f, t, m⟩ = q := ⟨_, rfl⟩
                rw [hq] at hf
                have hq1 : (q == 0) = false := by simpa using hf
                have hq2 : (q != 0) = true := by simpa using hf
                simp only [hq] at hc
                clear he he2 hf hq x1 x2 x3 hX
                go_wp2_with fail
                rw [← HW5.out]
                refine hc.mono ?_
                rintro r w6 ⟨rfl, _, b6⟩
                go_wp2_with fail
                go_ret
                exact ⟨retB Ev.out.symm, hbw5.trans (b6.mono (by omega))⟩
            · have hkn : k = n3 := by omega
              subst hkn
              have TE : Hid (x.wy.take k = x.wy) := List.take_of_length_le (by rw [L3.out]; exact Nat.le_refl _)
              have Eo3 : Hid (okL (wyF x.st) [] x.wy = true) := by rw [Hid, he.out]; exact okL_end (by rw [L3.out]; exact Nat.le_refl _)
              have hX2 := hX.out
              rw [TE.out] at hX2
              have X3 := hid hX2
              clear hX hX2 he
              have Ev : Hid (validX x = true) := by rw [Hid, V.out, Eo1.out, Eo2.out, Eo3.out]; rfl
              clear x1 x2 x3
              go_wp2_with fail
              go_ret
              exact ⟨retB Ev.out.symm, hbw⟩
end Go.Proofs.Ytmanbpobdaamfaa
