/-
  DropStation: the reference's side. No condition.
-/
import Derived.Test.YtmanbpobdaamfaaSDrop
import Derived.Deep.RegionLaw
namespace Go.Proofs.Ytmanbpobdaamfaa
open Go.RowKit
set_option maxHeartbeats 400000

set_option maxHeartbeats 8000000 in
set_option maxRecDepth 100000 in
theorem specDropStation_any (s : SV) (x : Sch) (z : ByteArray) (w : World) (B : Nat) (hB : B ≤ w.heap.size) (hn : s.n1 ≤ 2000000 ∧ s.n2 ≤ 2000000 ∧ s.n3 ≤ 2000000) (hx : SlX w B s x) (hz : Hid (BigX x)) (_hz : z.size ≤ 9223372036854775807) :
    Calls Try.prog 16 #[s.v, .string z] w (XPost w (dropF x z)) := by
  obtain ⟨A1, n1, c1, A2, n2, c2, A3, n3, c3⟩ := s
  simp only [SV.v] at hn ⊢
  obtain ⟨hn1, hn2, hn3⟩ := hn
  obtain ⟨W0, hW0⟩ : ∃ W0, W0 = (w.alloc (.cells #[.slice A1 n1 c1, .slice A2 n2 c2, .slice A3 n3 c3] 29)).alloc (.cells #[.slice none 0 0, .slice none 0 0, .slice none 0 0] 29) := ⟨_, rfl⟩
  have b0 : Below w.heap.size w W0 := by rw [hW0]; exact ((Below.refl _ _).alloc (Nat.le_refl _) _).alloc (by simp) _
  have z0 : W0.heap.size = w.heap.size + 2 := by rw [hW0]; simp
  have k0 : W0.cell? ⟨w.heap.size, 0, none⟩ = some (.slice A1 n1 c1) := by rw [hW0]; go_simp
  have k1 : W0.cell? ⟨w.heap.size, 1, none⟩ = some (.slice A2 n2 c2) := by rw [hW0]; go_simp
  have k2 : W0.cell? ⟨w.heap.size, 2, none⟩ = some (.slice A3 n3 c3) := by rw [hW0]; go_simp
  have d0 : W0.cell? ⟨w.heap.size + 1, 0, none⟩ = some (.slice none 0 0) := by rw [hW0]; go_simp
  have d1 : W0.cell? ⟨w.heap.size + 1, 1, none⟩ = some (.slice none 0 0) := by rw [hW0]; go_simp
  have d2 : W0.cell? ⟨w.heap.size + 1, 2, none⟩ = some (.slice none 0 0) := by rw [hW0]; go_simp
  have f0 : W0.frozen? ⟨w.heap.size + 1, 0, none⟩ = false := by rw [hW0]; go_simp
  have f1 : W0.frozen? ⟨w.heap.size + 1, 1, none⟩ = false := by rw [hW0]; go_simp
  have f2 : W0.frozen? ⟨w.heap.size + 1, 2, none⟩ = false := by rw [hW0]; go_simp
  have hx0 := hx.below (b0.mono hB)
  have hc := l21Code_any w.heap.size ⟨A1, n1, c1, A2, n2, c2, A3, n3, c3⟩ x z W0 B (Nat.le_trans hB b0.size) ⟨hn1, hn2, hn3⟩ hx0 hz k0 k1 k2
  have L1 := hid hx0.st.len
  have L2 := hid hx0.rm.len
  have L3 := hid hx0.wy.len
  have HW := hid hW0
  clear hW0 hx hz
  by_cases hv : codeX x z = 0
  · have EF : Hid (dropF x z = (⟨stay (isS z) x.st, stay (isS z) x.rm, stay (atW z) x.wy⟩, 0)) := by rw [Hid, dropF, if_pos hv]
    have hvx := (codeX_zero hv).1
    have h20 : n1 ≤ 20 := by have := validX_stl hvx; have := L1.out; simp only at this; omega
    have h60 : n3 ≤ 60 := by have := validX_wyl hvx; have := L3.out; simp only at this; omega
    rw [hv] at hc
    have x1 := hx0.st
    have x2 := hx0.rm
    have x3 := hx0.wy
    simp only at x1 x2 x3
    clear hx0 hv hvx
    obtain ⟨i0, hi, hz0, hz1, hz2⟩ := info_parts str_info
    obtain ⟨j0, hj, hy0, hy1, hy2⟩ := info_parts Way_info
    go_enter Try.func16, Try.ntmps16
    go_wp2_with fail
    rw [← HW.out]
    refine hc.mono ?_
    rintro r w1 ⟨rfl, b1⟩
    clear hc
    have z1 := b1.size
    have hBw := Nat.le_trans hB b0.size
    have b2 := b0.trans (b1.mono b0.size)
    replace f0 := below_frz d0 f0 b1
    replace f1 := below_frz d1 f1 b1
    replace f2 := below_frz d2 f2 b1
    replace d0 := below_cell d0 b1
    replace d1 := below_cell d1 b1
    replace d2 := below_cell d2 b1
    replace k0 := below_cell k0 b1
    replace k1 := below_cell k1 b1
    replace k2 := below_cell k2 b1
    replace x1 := x1.below (b1.mono hBw)
    replace x2 := x2.below (b1.mono hBw)
    replace x3 := x3.below (b1.mono hBw)
    clear b1
    go_wp2_with fail
    refine (l21Empty_any w1).mono ?_
    rintro r w2 ⟨rfl, oX, b3⟩
    have z2 := b3.size
    obtain ⟨W3, hW3⟩ : ∃ W3, W3 = w2.alloc (.cells #[.slice (some ⟨w1.heap.size + 1, 0, none⟩) 0 0, .slice (some ⟨w1.heap.size + 2, 0, none⟩) 0 0, .slice (some ⟨w1.heap.size + 3, 0, none⟩) 0 0] 29) := ⟨_, rfl⟩
    have b4 : Below w2.heap.size w2 W3 := by rw [hW3]; exact (Below.refl _ _).alloc (Nat.le_refl _) _
    have bb : Below w1.heap.size w1 W3 := b3.trans (b4.mono b3.size)
    have z3 : W3.heap.size = w2.heap.size + 1 := by rw [hW3]; simp
    have oX2 := oX.below b4
    have lX := oX.inX
    have X0 : XAt W3 w2.heap.size w1.heap.size ⟨some ⟨w1.heap.size + 1, 0, none⟩, 0, 0, some ⟨w1.heap.size + 2, 0, none⟩, 0, 0, some ⟨w1.heap.size + 3, 0, none⟩, 0, 0⟩ ⟨[], [], []⟩ := by
      refine ⟨?_, ?_, ?_, ?_, ?_, ?_, oX2, fun e => absurd (lX _ (.inl e)).2 (Nat.lt_irrefl _), fun e => absurd (lX _ (.inr (.inl e))).2 (Nat.lt_irrefl _), fun e => absurd (lX _ (.inr (.inr e))).2 (Nat.lt_irrefl _)⟩
      all_goals rw [hW3]
      all_goals go_simp
    have XH := hid X0
    have HW3 := hid hW3
    clear hW3 oX oX2 lX X0
    go_wp2_with fail
    rw [← HW3.out]
    go_loopw [8] (fun i wl => ∃ (k : Nat) (s2 : SV), k ≤ n1 ∧ i = .int .i64 k ∧ Hid (XAt wl w2.heap.size w1.heap.size s2 ⟨stay (isS z) (x.st.take k), [], []⟩) ∧ Below w1.heap.size w1 wl ∧ W3.heap.size ≤ wl.heap.size) (fun i _ => n1 - (intOf i).toNat)
    case atStart => exact ⟨0, _, Nat.zero_le _, rfl, XH, bb, by omega⟩
    case round =>
      obtain ⟨k, s2, hk, rfl, hX, hb, hsz⟩ := hrel
      clear bb
      have zb := hb.size
      have kk0 := below_cell k0 hb
      have kk1 := below_cell k1 hb
      have kk2 := below_cell k2 hb
      have hbB : Below B w1 wr := hb.mono (by omega)
      by_cases hlt : k < n1
      · obtain ⟨y, b, off, Hy, rfl, hbb, l0⟩ := (x1.below hbB).str hlt
        have hi0 : (0 : Int) ≤ (k : Int) := by omega
        have hi1 : (k : Int) < (n1 : Int) := by omega
        have SN := hid (stay_snoc (p := (isS z)) Hy.out)
        have E1 := hid (show isS z y = decide (y = z) from rfl)
        have q1 := bs_eq (x := y) (y := z)
        have SN2 := SN.out
        rw [E1.out] at SN2
        have SN3 := hid SN2
        clear SN2 SN E1
        generalize decide (y = z) = p1 at q1 SN3
        cases p1 with
        | true =>
          have HX2 : Hid (XAt wr w2.heap.size w1.heap.size s2 ⟨stay (isS z) (x.st.take (k + 1)), [], []⟩) := by rw [Hid, SN3.out]; exact hX.out
          clear x1 x2 x3 hX SN3
          go_wp2_with fail
          go_roundw
          all_goals first | exact ⟨k + 1, s2, by omega, by go_num, HX2, hb, hsz⟩ | exact ⟨⟨k + 1, s2, by omega, by go_num, HX2, hb, hsz⟩, by simp [intOf]; omega⟩ | (simp [intOf]; omega)
        | false =>
          obtain ⟨B1, m1, e1, B2, m2, e2, B3, m3, e3⟩ := s2
          have hXo := hX.out
          have hlen := hXo.len
          simp only at hlen
          have hr := hXo.own.st
          have hlr := hid hr.lt
          simp only at hr
          have g0 := hXo.k0
          have fz := hXo.f0
          have q9 := hXo.o1
          simp only at g0 q9
          have lg := hXo.lt
          have hm : m1 ≤ 2000000 := by have h1 := hlen.1; have h2 := stay_len (isS z) (x.st.take k); have h3 : (x.st.take k).length ≤ k := List.length_take_le _ _; omega
          have HXo := hid hXo
          clear x1 x2 x3 hX hXo hlen
          go_wp2_with fail
          go_region_law (refine step_append_lies _ (by rfl) _ _ _ (by rfl) w1.heap.size 9 i0 _ 1 16 Try.underlying22 hi hz0 hz1 hz2 rfl (by omega) (.slice B1 m1 e1) m1 ((stay (isS z) (x.st.take k)).flatMap encS) (by rfl) ((ow_drew hr).alloc _) ⟨wr.heap.size, 0, none⟩ 1 1 [.string y] (by rfl) (by rfl) (World.news_of_block (cs := #[.string y]) (t := 9) (fr := (0, 0)) (heap_alloc_new wr.drew _)) (by simp [Value.oneCell']) (by omega) (by simp only [maxLen]; omega) (by omega) (by simp; omega) (wr.heap.size + 1) (by simp) ?_; intro gg cap w5 ho3 hg3 hat3 hlt3; have hgg := (gr_alloc (gr_drew (World.grownBy.refl wr _))).trans hg3; have f3 := (hgg.frozen_far ⟨w2.heap.size, 0, none⟩ lg (fun e => q9 e.symm)).trans fz; have k3 : ∃ v, w5.cell? ⟨w2.heap.size, 0, none⟩ = some v := ⟨_, hgg.cell g0 (fun e => q9 e.symm)⟩; obtain ⟨v3, k3⟩ := k3)
          all_goals
            have HX6 := HXo.out.put1 (z := y) (H := wr.heap.size + 1) hgg (by omega) hat3 (by simpa [encS] using ho3)
            have HX7 : Hid (XAt (w5.setCell ⟨w2.heap.size, 0, none⟩ (.slice (some ⟨gg, 0, none⟩) (m1 + 1) cap)) w2.heap.size w1.heap.size ⟨some ⟨gg, 0, none⟩, m1 + 1, cap, B2, m2, e2, B3, m3, e3⟩ ⟨stay (isS z) (x.st.take (k + 1)), [], []⟩) := by rw [Hid, SN3.out]; exact HX6
            have hb6 : Below w1.heap.size w1 (w5.setCell ⟨w2.heap.size, 0, none⟩ (.slice (some ⟨gg, 0, none⟩) (m1 + 1) cap)) := bl_set (by simp only; omega) ((hb.drew.alloc (by simp; omega) _).grown hg3 (by simp; omega) (fun b hb => (hlr.out b hb).1))
            have hs6 : W3.heap.size ≤ (w5.setCell ⟨w2.heap.size, 0, none⟩ (.slice (some ⟨gg, 0, none⟩) (m1 + 1) cap)).heap.size := by have := hgg.size; simp; omega
            clear HX6 ho3 hgg hg3
            go_wp2_with fail
            go_roundw
            all_goals first | exact ⟨k + 1, _, by omega, by go_num, HX7, hb6, hs6⟩ | exact ⟨⟨k + 1, _, by omega, by go_num, HX7, hb6, hs6⟩, by simp [intOf]; omega⟩ | (simp [intOf]; omega)
      · have hkn : k = n1 := by omega
        subst hkn
        have hX2 := hX.out
        rw [List.take_of_length_le (by rw [L1.out]; exact Nat.le_refl _)] at hX2
        have X1 := hid hX2
        clear hX hX2
        have bb := hb
        have hszq := hsz
        clear zb hb hbB hlt hk hsz
        go_wp2_with fail
        obtain ⟨wq, hwq⟩ : ∃ wq : World, wq = wr := ⟨_, rfl⟩
        subst hwq
        go_loopw [9] (fun i wl => ∃ (k : Nat) (s2 : SV), k ≤ n2 ∧ i = .int .i64 k ∧ Hid (XAt wl w2.heap.size w1.heap.size s2 ⟨stay (isS z) x.st, stay (isS z) (x.rm.take k), []⟩) ∧ Below w1.heap.size w1 wl ∧ W3.heap.size ≤ wl.heap.size) (fun i _ => n2 - (intOf i).toNat)
        case atStart => exact ⟨0, _, Nat.zero_le _, rfl, (by simpa [Hid, stay] using X1.out), bb, by omega⟩
        case round =>
          obtain ⟨k, s2, hk, rfl, hX, hb, hsz⟩ := hrel
          clear bb hszq
          have zb := hb.size
          have kk1 := below_cell k1 hb
          have kk2 := below_cell k2 hb
          have hbB : Below B w1 wr := hb.mono (by omega)
          by_cases hlt : k < n2
          · obtain ⟨y, b, off, Hy, rfl, hbb, l0⟩ := (x2.below hbB).str hlt
            have hi0 : (0 : Int) ≤ (k : Int) := by omega
            have hi1 : (k : Int) < (n2 : Int) := by omega
            have SN := hid (stay_snoc (p := (isS z)) Hy.out)
            have E1 := hid (show isS z y = decide (y = z) from rfl)
            have q1 := bs_eq (x := y) (y := z)
            have SN2 := SN.out
            rw [E1.out] at SN2
            have SN3 := hid SN2
            clear SN2 SN E1
            generalize decide (y = z) = p1 at q1 SN3
            cases p1 with
            | true =>
              have HX2 : Hid (XAt wr w2.heap.size w1.heap.size s2 ⟨stay (isS z) x.st, stay (isS z) (x.rm.take (k + 1)), []⟩) := by rw [Hid, SN3.out]; exact hX.out
              clear x2 x3 hX SN3
              go_wp2_with fail
              go_roundw
              all_goals first | exact ⟨k + 1, s2, by omega, by go_num, HX2, hb, hsz⟩ | exact ⟨⟨k + 1, s2, by omega, by go_num, HX2, hb, hsz⟩, by simp [intOf]; omega⟩ | (simp [intOf]; omega)
            | false =>
              obtain ⟨B1, m1, e1, B2, m2, e2, B3, m3, e3⟩ := s2
              have hXo := hX.out
              have hlen := hXo.len
              simp only at hlen
              have hr := hXo.own.rm
              have hlr := hid hr.lt
              simp only at hr
              have g0 := hXo.k1
              have fz := hXo.f1
              have q9 := hXo.o2
              simp only at g0 q9
              have lg := hXo.lt
              have hm : m2 ≤ 2000000 := by have h1 := hlen.2.1; have h2 := stay_len (isS z) (x.rm.take k); have h3 : (x.rm.take k).length ≤ k := List.length_take_le _ _; omega
              have HXo := hid hXo
              clear x2 x3 hX hXo hlen
              go_wp2_with fail
              go_region_law (refine step_append_lies _ (by rfl) _ _ _ (by rfl) w1.heap.size 9 i0 _ 1 16 Try.underlying22 hi hz0 hz1 hz2 rfl (by omega) (.slice B2 m2 e2) m2 ((stay (isS z) (x.rm.take k)).flatMap encS) (by rfl) ((ow_drew hr).alloc _) ⟨wr.heap.size, 0, none⟩ 1 1 [.string y] (by rfl) (by rfl) (World.news_of_block (cs := #[.string y]) (t := 9) (fr := (0, 0)) (heap_alloc_new wr.drew _)) (by simp [Value.oneCell']) (by omega) (by simp only [maxLen]; omega) (by omega) (by simp; omega) (wr.heap.size + 1) (by simp) ?_; intro gg cap w5 ho3 hg3 hat3 hlt3; have hgg := (gr_alloc (gr_drew (World.grownBy.refl wr _))).trans hg3; have f3 := (hgg.frozen_far ⟨w2.heap.size, 1, none⟩ lg (fun e => q9 e.symm)).trans fz; have k3 : ∃ v, w5.cell? ⟨w2.heap.size, 1, none⟩ = some v := ⟨_, hgg.cell g0 (fun e => q9 e.symm)⟩; obtain ⟨v3, k3⟩ := k3)
              all_goals
                have HX6 := HXo.out.put2 (z := y) (H := wr.heap.size + 1) hgg (by omega) hat3 (by simpa [encS] using ho3)
                have HX7 : Hid (XAt (w5.setCell ⟨w2.heap.size, 1, none⟩ (.slice (some ⟨gg, 0, none⟩) (m2 + 1) cap)) w2.heap.size w1.heap.size ⟨B1, m1, e1, some ⟨gg, 0, none⟩, m2 + 1, cap, B3, m3, e3⟩ ⟨stay (isS z) x.st, stay (isS z) (x.rm.take (k + 1)), []⟩) := by rw [Hid, SN3.out]; exact HX6
                have hb6 : Below w1.heap.size w1 (w5.setCell ⟨w2.heap.size, 1, none⟩ (.slice (some ⟨gg, 0, none⟩) (m2 + 1) cap)) := bl_set (by simp only; omega) ((hb.drew.alloc (by simp; omega) _).grown hg3 (by simp; omega) (fun b hb => (hlr.out b hb).1))
                have hs6 : W3.heap.size ≤ (w5.setCell ⟨w2.heap.size, 1, none⟩ (.slice (some ⟨gg, 0, none⟩) (m2 + 1) cap)).heap.size := by have := hgg.size; simp; omega
                clear HX6 ho3 hgg hg3
                go_wp2_with fail
                go_roundw
                all_goals first | exact ⟨k + 1, _, by omega, by go_num, HX7, hb6, hs6⟩ | exact ⟨⟨k + 1, _, by omega, by go_num, HX7, hb6, hs6⟩, by simp [intOf]; omega⟩ | (simp [intOf]; omega)
          · have hkn : k = n2 := by omega
            subst hkn
            have hX2 := hX.out
            rw [List.take_of_length_le (by rw [L2.out]; exact Nat.le_refl _)] at hX2
            have X2 := hid hX2
            clear hX hX2
            have bb := hb
            have hszq := hsz
            clear zb hb hbB hlt hk hsz
            go_wp2_with fail
            obtain ⟨wq, hwq⟩ : ∃ wq : World, wq = wr := ⟨_, rfl⟩
            subst hwq
            go_loopw [10] (fun i wl => ∃ (k : Nat) (s2 : SV), k ≤ n3 ∧ i = .int .i64 k ∧ Hid (XAt wl w2.heap.size w1.heap.size s2 ⟨stay (isS z) x.st, stay (isS z) x.rm, stay (atW z) (x.wy.take k)⟩) ∧ Below w1.heap.size w1 wl ∧ W3.heap.size ≤ wl.heap.size) (fun i _ => n3 - (intOf i).toNat)
            case atStart => exact ⟨0, _, Nat.zero_le _, rfl, (by simpa [Hid, stay] using X2.out), bb, by omega⟩
            case round =>
              obtain ⟨k, s2, hk, rfl, hX, hb, hsz⟩ := hrel
              clear bb hszq
              have zb := hb.size
              have kk2 := below_cell k2 hb
              have hbB : Below B w1 wr := hb.mono (by omega)
              by_cases hlt : k < n3
              · obtain ⟨f, t, m, b, off, Hy, rfl, hbb, l0, l1, l2⟩ := (x3.below hbB).atWay hlt
                have hi0 : (0 : Int) ≤ (k : Int) := by omega
                have hi1 : (k : Int) < (n3 : Int) := by omega
                have SN := hid (stay_snoc (p := (atW z)) Hy.out)
                have E1 := hid (show atW z ⟨f, t, m⟩ = (decide (f = z) || decide (t = z)) from rfl)
                have q1 := bs_eq (x := f) (y := z)
                have q2 := bs_eq (x := t) (y := z)
                have SN2 := SN.out
                rw [E1.out] at SN2
                have SN3 := hid SN2
                clear SN2 SN E1
                generalize decide (f = z) = p1 at q1 SN3
                generalize decide (t = z) = p2 at q2 SN3
                cases p1 with
                | true =>
                  cases p2
                  all_goals
                    have HX2 : Hid (XAt wr w2.heap.size w1.heap.size s2 ⟨stay (isS z) x.st, stay (isS z) x.rm, stay (atW z) (x.wy.take (k + 1))⟩) := by rw [Hid, SN3.out]; exact hX.out
                    clear x3 hX SN3
                    go_wp2_with fail
                    go_roundw
                    all_goals first | exact ⟨k + 1, s2, by omega, by go_num, HX2, hb, hsz⟩ | exact ⟨⟨k + 1, s2, by omega, by go_num, HX2, hb, hsz⟩, by simp [intOf]; omega⟩ | (simp [intOf]; omega)
                | false =>
                  cases p2 with
                  | true =>
                    have HX2 : Hid (XAt wr w2.heap.size w1.heap.size s2 ⟨stay (isS z) x.st, stay (isS z) x.rm, stay (atW z) (x.wy.take (k + 1))⟩) := by rw [Hid, SN3.out]; exact hX.out
                    clear x3 hX SN3
                    go_wp2_with fail
                    go_roundw
                    all_goals first | exact ⟨k + 1, s2, by omega, by go_num, HX2, hb, hsz⟩ | exact ⟨⟨k + 1, s2, by omega, by go_num, HX2, hb, hsz⟩, by simp [intOf]; omega⟩ | (simp [intOf]; omega)
                  | false =>
                    obtain ⟨B1, m1, e1, B2, m2, e2, B3, m3, e3⟩ := s2
                    have hXo := hX.out
                    have hlen := hXo.len
                    simp only at hlen
                    have hr := hXo.own.wy
                    have hlr := hid hr.lt
                    simp only at hr
                    have g0 := hXo.k2
                    have fz := hXo.f2
                    have q9 := hXo.o3
                    simp only at g0 q9
                    have lg := hXo.lt
                    have hm : m3 ≤ 2000000 := by have h1 := hlen.2.2; have h2 := stay_len (atW z) (x.wy.take k); have h3 : (x.wy.take k).length ≤ k := List.length_take_le _ _; omega
                    have HXo := hid hXo
                    clear x3 hX hXo hlen
                    go_wp2_with fail
                    go_region_law (refine step_append_lies _ (by rfl) _ _ _ (by rfl) w1.heap.size 54 j0 _ 3 40 Try.underlying27 hj hy0 hy1 hy2 rfl (by omega) (.slice B3 m3 e3) m3 ((stay (atW z) (x.wy.take k)).flatMap encWay) (by rfl) ((ow_drew hr).alloc _) ⟨wr.heap.size, 0, none⟩ 1 1 [.string f, .string t, .int .i64 m] (by rfl) (by rfl) (World.news_of_block (cs := #[.string f, .string t, .int .i64 m]) (t := 54) (fr := (0, 0)) (heap_alloc_new wr.drew _)) (by simp [Value.oneCell']) (by omega) (by simp only [maxLen]; omega) (by omega) (by simp; omega) (wr.heap.size + 1) (by simp) ?_; intro gg cap w5 ho3 hg3 hat3 hlt3; have hgg := (gr_alloc (gr_drew (World.grownBy.refl wr _))).trans hg3; have f3 := (hgg.frozen_far ⟨w2.heap.size, 2, none⟩ lg (fun e => q9 e.symm)).trans fz; have k3 : ∃ v, w5.cell? ⟨w2.heap.size, 2, none⟩ = some v := ⟨_, hgg.cell g0 (fun e => q9 e.symm)⟩; obtain ⟨v3, k3⟩ := k3)
                    all_goals
                      have HX6 := HXo.out.put3 (z := ⟨f, t, m⟩) (H := wr.heap.size + 1) hgg (by omega) hat3 (by simpa [encWay] using ho3)
                      have HX7 : Hid (XAt (w5.setCell ⟨w2.heap.size, 2, none⟩ (.slice (some ⟨gg, 0, none⟩) (m3 + 1) cap)) w2.heap.size w1.heap.size ⟨B1, m1, e1, B2, m2, e2, some ⟨gg, 0, none⟩, m3 + 1, cap⟩ ⟨stay (isS z) x.st, stay (isS z) x.rm, stay (atW z) (x.wy.take (k + 1))⟩) := by rw [Hid, SN3.out]; exact HX6
                      have hb6 : Below w1.heap.size w1 (w5.setCell ⟨w2.heap.size, 2, none⟩ (.slice (some ⟨gg, 0, none⟩) (m3 + 1) cap)) := bl_set (by simp only; omega) ((hb.drew.alloc (by simp; omega) _).grown hg3 (by simp; omega) (fun b hb => (hlr.out b hb).1))
                      have hs6 : W3.heap.size ≤ (w5.setCell ⟨w2.heap.size, 2, none⟩ (.slice (some ⟨gg, 0, none⟩) (m3 + 1) cap)).heap.size := by have := hgg.size; simp; omega
                      clear HX6 ho3 hgg hg3
                      go_wp2_with fail
                      go_roundw
                      all_goals first | exact ⟨k + 1, _, by omega, by go_num, HX7, hb6, hs6⟩ | exact ⟨⟨k + 1, _, by omega, by go_num, HX7, hb6, hs6⟩, by simp [intOf]; omega⟩ | (simp [intOf]; omega)
              · have hkn : k = n3 := by omega
                subst hkn
                have hX2 := hX.out
                rw [List.take_of_length_le (by rw [L3.out]; exact Nat.le_refl _)] at hX2
                have X3 := hid hX2
                clear hX hX2
                obtain ⟨B1, m1, e1, B2, m2, e2, B3, m3, e3⟩ := s2
                have g0 := X3.out.k0
                have g1 := X3.out.k1
                have g2 := X3.out.k2
                simp only at g0 g1 g2
                have hbw := b2.trans (hb.mono b2.size)
                have p0 := below_cell d0 hb
                have r0 : wr.frozen? ⟨w.heap.size + 1, 0, none⟩ = false := below_frz d0 f0 hb
                have p1 := below_cell d1 hb
                have r1 : wr.frozen? ⟨w.heap.size + 1, 1, none⟩ = false := below_frz d1 f1 hb
                have p2 := below_cell d2 hb
                have r2 : wr.frozen? ⟨w.heap.size + 1, 2, none⟩ = false := below_frz d2 f2 hb
                clear x3
                go_wp2_with fail
                have t0 := set3_0 p0 (.slice B1 m1 e1) (.slice B2 m2 e2) (.slice B3 m3 e3)
                have t1 := set3_1 p1 (.slice B1 m1 e1) (.slice B2 m2 e2) (.slice B3 m3 e3)
                have t2 := set3_2 p2 (.slice B1 m1 e1) (.slice B2 m2 e2) (.slice B3 m3 e3)
                rw [EF.out]
                have hO := X3.out.own
                refine bodyPost_ret (v := .tuple #[.agg #[.slice B1 m1 e1, .slice B2 m2 e2, .slice B3 m3 e3], .int .i64 0]) (by simp [results, Try.results16, go_sem, t0, t1, t2]) rfl ⟨⟨B1, m1, e1, B2, m2, e2, B3, m3, e3⟩, rfl, ⟨?_, ?_, ?_, hO.ap12, hO.ap13, hO.ap23⟩, bl_set3 (by omega) hbw⟩
                · exact ow_set3 (fun e => by have := (hO.st.lt _ e).1; omega) (hO.st.mono (by omega))
                · exact ow_set3 (fun e => by have := (hO.rm.lt _ e).1; omega) (hO.rm.mono (by omega))
                · exact ow_set3 (fun e => by have := (hO.wy.lt _ e).1; omega) (hO.wy.mono (by omega))
  · have EF : Hid (dropF x z = (⟨[], [], []⟩, codeX x z)) := by rw [Hid, dropF, if_neg hv]
    generalize codeX x z = q at hc hv EF
    have q1 : (q == 0) = false := by simpa using hv
    have q2 : (q != 0) = true := by simpa using hv
    clear hx0 hv k0 k1 k2
    go_enter Try.func16, Try.ntmps16
    go_wp2_with fail
    rw [← HW.out]
    refine hc.mono ?_
    rintro r w1 ⟨rfl, b1⟩
    have g0 := below_frz d0 f0 b1
    have g1 := below_frz d1 f1 b1
    have g2 := below_frz d2 f2 b1
    replace d0 := below_cell d0 b1
    replace d1 := below_cell d1 b1
    replace d2 := below_cell d2 b1
    clear f0 f1 f2
    go_wp2_with fail
    have p0 := set3_0 d0 (.slice none 0 0) (.slice none 0 0) (.slice none 0 0)
    have p1 := set3_1 d1 (.slice none 0 0) (.slice none 0 0) (.slice none 0 0)
    have p2 := set3_2 d2 (.slice none 0 0) (.slice none 0 0) (.slice none 0 0)
    rw [EF.out]
    refine bodyPost_ret (v := .tuple #[.agg #[.slice none 0 0, .slice none 0 0, .slice none 0 0], .int .i64 q]) (by simp [results, Try.results16, go_sem, p0, p1, p2]) rfl ⟨⟨none, 0, 0, none, 0, 0, none, 0, 0⟩, rfl, ⟨World.ownsRow_nil _ _ _ _, World.ownsRow_nil _ _ _ _, World.ownsRow_nil _ _ _ _, fun b h => by simp [Value.ownBlock] at h, fun b h => by simp [Value.ownBlock] at h, fun b h => by simp [Value.ownBlock] at h⟩, bl_set3 (by omega) (b0.trans (b1.mono b0.size))⟩
end Go.Proofs.Ytmanbpobdaamfaa
