/-
  RenameStation: the program's side. No condition.
-/
import Derived.Test.YtmanbpobdaamfaaSDrop
import Derived.Deep.RegionLaw
import Derived.Deep.RegionHeldLaw
namespace Go.Proofs.Ytmanbpobdaamfaa
open Go.RowKit
set_option maxHeartbeats 400000

def renS (z t y : ByteArray) : ByteArray := if y = z then t else y
def renW (z t : ByteArray) (y : Way) : Way := ⟨renS z t y.fr, renS z t y.to, y.metres⟩
/-- a station is renamed -/
def renF (x : Sch) (z t : ByteArray) : Sch × Int :=
  if codeX x z = 0 then if nameB t then if hasS x.st t then (⟨[], [], []⟩, 4) else (⟨x.st.map (renS z t), x.rm.map (renS z t), x.wy.map (renW z t)⟩, 0) else (⟨[], [], []⟩, 2) else (⟨[], [], []⟩, codeX x z)
theorem renF_len (x : Sch) (z t : ByteArray) (HT : Hid (totX x ≤ 1048576)) : (renF x z t).1.st.length ≤ 2000000 ∧ (renF x z t).1.rm.length ≤ 2000000 ∧ (renF x z t).1.wy.length ≤ 2000000 ∧ lenX (renF x z t).1 ≤ 4000000 := by
  have := HT.out
  simp only [totX] at this
  unfold renF
  split
  · split
    · split
      · simp [lenX]
      · simp only [lenX, List.length_map]; omega
    · simp [lenX]
  · simp [lenX]
theorem map_snoc {α β : Type} {f : α → β} {xs : List α} {k : Nat} {x : α} (h : xs[k]? = some x) : (xs.take (k + 1)).map f = (xs.take k).map f ++ [f x] := by rw [take_at h]; simp

theorem ren1_any (b1 b2 : Nat) (z t y : ByteArray) (w : World) (k1 : w.cell? ⟨b1, 0, none⟩ = some (.string z)) (k2 : w.cell? ⟨b2, 0, none⟩ = some (.string t)) :
    Calls Try.prog 44 #[.string y, .pointer (some ⟨b1, 0, none⟩), .pointer (some ⟨b2, 0, none⟩)] w fun r w' => r = .returned (.string (renS z t y)) ∧ w' = w := by
  have q1 := bs_eq (x := y) (y := z)
  have E := hid (show renS z t y = if decide (y = z) then t else y by unfold renS; by_cases h : y = z <;> simp [h])
  generalize decide (y = z) = p1 at q1 E
  cases p1
  all_goals go_enter Try.func44, Try.ntmps44
  all_goals go_wp2
  all_goals go_ret
  all_goals exact ⟨by rw [E.out]; simp, rfl⟩
set_option maxHeartbeats 8000000 in
set_option maxRecDepth 100000 in
theorem implRenameStation_any (s : SV) (x : Sch) (z t : ByteArray) (w : World) (B : Nat) (hB : B ≤ w.heap.size) (hn : s.n1 ≤ 2000000 ∧ s.n2 ≤ 2000000 ∧ s.n3 ≤ 2000000) (hx : SlX w B s x) (hz : Hid (BigX x)) (_hz : z.size ≤ 9223372036854775807) (ht : t.size ≤ 9223372036854775807) :
    Calls Try.prog 8 #[s.v, .string z, .string t] w (XPost w (renF x z t)) := by
  have eg1 := enters_of Try.func44 (by kernel_rfl) rfl
  obtain ⟨A1, n1, c1, A2, n2, c2, A3, n3, c3⟩ := s
  simp only [SV.v] at hn ⊢
  obtain ⟨hn1, hn2, hn3⟩ := hn
  obtain ⟨W0, hW0⟩ : ∃ W0, W0 = (((w.alloc (.cells #[.slice A1 n1 c1, .slice A2 n2 c2, .slice A3 n3 c3] 29)).alloc (.cells #[.string z] 9)).alloc (.cells #[.string t] 9)).alloc (.cells #[.slice none 0 0, .slice none 0 0, .slice none 0 0] 29) := ⟨_, rfl⟩
  have b0 : Below w.heap.size w W0 := by rw [hW0]; exact ((((Below.refl _ _).alloc (Nat.le_refl _) _).alloc (by simp) _).alloc (by simp; omega) _).alloc (by simp; omega) _
  have z0 : W0.heap.size = w.heap.size + 4 := by rw [hW0]; simp
  have k0 : W0.cell? ⟨w.heap.size, 0, none⟩ = some (.slice A1 n1 c1) := by rw [hW0]; go_simp
  have k1 : W0.cell? ⟨w.heap.size, 1, none⟩ = some (.slice A2 n2 c2) := by rw [hW0]; go_simp
  have k2 : W0.cell? ⟨w.heap.size, 2, none⟩ = some (.slice A3 n3 c3) := by rw [hW0]; go_simp
  have kz : W0.cell? ⟨w.heap.size + 1, 0, none⟩ = some (.string z) := by rw [hW0]; go_simp
  have kt : W0.cell? ⟨w.heap.size + 1 + 1, 0, none⟩ = some (.string t) := by rw [hW0]; go_simp
  have d0 : W0.cell? ⟨w.heap.size + 1 + 1 + 1, 0, none⟩ = some (.slice none 0 0) := by rw [hW0]; go_simp
  have d1 : W0.cell? ⟨w.heap.size + 1 + 1 + 1, 1, none⟩ = some (.slice none 0 0) := by rw [hW0]; go_simp
  have d2 : W0.cell? ⟨w.heap.size + 1 + 1 + 1, 2, none⟩ = some (.slice none 0 0) := by rw [hW0]; go_simp
  have f0 : W0.frozen? ⟨w.heap.size + 1 + 1 + 1, 0, none⟩ = false := by rw [hW0]; go_simp
  have f1 : W0.frozen? ⟨w.heap.size + 1 + 1 + 1, 1, none⟩ = false := by rw [hW0]; go_simp
  have f2 : W0.frozen? ⟨w.heap.size + 1 + 1 + 1, 2, none⟩ = false := by rw [hW0]; go_simp
  have hx0 := hx.below (b0.mono hB)
  have hc := schemeCode_any ⟨A1, n1, c1, A2, n2, c2, A3, n3, c3⟩ x z W0 B (Nat.le_trans hB b0.size) ⟨hn1, hn2, hn3⟩ hx0 hz
  simp only [SV.v] at hc
  have L1 := hid hx0.st.len
  have L2 := hid hx0.rm.len
  have L3 := hid hx0.wy.len
  have HW := hid hW0
  clear hW0 hx hz
  have EF := hid (show renF x z t = if codeX x z = 0 then if nameB t then if hasS x.st t then (⟨[], [], []⟩, 4) else (⟨x.st.map (renS z t), x.rm.map (renS z t), x.wy.map (renW z t)⟩, 0) else (⟨[], [], []⟩, 2) else (⟨[], [], []⟩, codeX x z) from rfl)
  have cN := fun (W : World) => implIsName_any t W ht
  have cH := fun (W : World) (hb : Below W0.heap.size W0 W) (h0 : W.cell? ⟨w.heap.size, 0, none⟩ = some (.slice A1 n1 c1)) => hasStation_any w.heap.size A1 n1 c1 x.st t W B hn1 (hx0.st.below (hb.mono (Nat.le_trans hB b0.size))) h0
  have hcz : ∀ h : codeX x z = 0, n1 ≤ 20 ∧ n3 ≤ 60 := fun h => by
    have hvx := (codeX_zero h).1
    have q1 := validX_stl hvx; have q3 := validX_wyl hvx
    have := L1.out; have := L3.out; simp only at *; omega
  have x1 := hx0.st
  have x2 := hx0.rm
  have x3 := hx0.wy
  simp only at x1 x2 x3
  clear hx0
  generalize codeX x z = q at hc EF hcz
  generalize nameB t = p1 at cN EF
  generalize hasS x.st t = p2 at cH EF
  by_cases hv : q = 0
  · subst hv
    obtain ⟨h20, h60⟩ := hcz rfl
    clear hcz
    cases p1 with
    | false =>
      clear cH eg1
      go_enter Try.func8, Try.ntmps8
      go_wp2_with fail
      rw [← HW.out]
      refine hc.mono ?_
      rintro r w1 ⟨rfl, b1⟩
      clear hc
      replace k0 := below_cell k0 b1
      replace k1 := below_cell k1 b1
      replace k2 := below_cell k2 b1
      replace kz := below_cell kz b1
      replace kt := below_cell kt b1
      have g0 := below_frz d0 f0 b1
      have g1 := below_frz d1 f1 b1
      have g2 := below_frz d2 f2 b1
      replace d0 := below_cell d0 b1
      replace d1 := below_cell d1 b1
      replace d2 := below_cell d2 b1
      clear f0 f1 f2
      go_wp2_with (go_at_call 42; (with_reducible refine (cN _).mono ?_); rintro r wn ⟨rfl, e⟩; replace e := e.symm; subst e)
      have p10 := set3_0 d0 (.slice none 0 0) (.slice none 0 0) (.slice none 0 0)
      have p11 := set3_1 d1 (.slice none 0 0) (.slice none 0 0) (.slice none 0 0)
      have p12 := set3_2 d2 (.slice none 0 0) (.slice none 0 0) (.slice none 0 0)
      rw [EF.out]
      refine bodyPost_ret (v := .tuple #[.agg #[.slice none 0 0, .slice none 0 0, .slice none 0 0], .int .i64 2]) (by simp [results, Try.results8, go_sem, p10, p11, p12]) rfl ⟨⟨none, 0, 0, none, 0, 0, none, 0, 0⟩, by simp [SV.v, *], ⟨by simpa [*] using World.ownsRow_nil _ _ _ _, by simpa [*] using World.ownsRow_nil _ _ _ _, by simpa [*] using World.ownsRow_nil _ _ _ _, fun b h => by simp [Value.ownBlock] at h, fun b h => by simp [Value.ownBlock] at h, fun b h => by simp [Value.ownBlock] at h⟩, bl_set3 (by omega) (b0.trans (b1.mono b0.size))⟩
    | true =>
      cases p2 with
      | true =>
        clear eg1
        go_enter Try.func8, Try.ntmps8
        go_wp2_with fail
        rw [← HW.out]
        refine hc.mono ?_
        rintro r w1 ⟨rfl, b1⟩
        clear hc
        replace k0 := below_cell k0 b1
        replace k1 := below_cell k1 b1
        replace k2 := below_cell k2 b1
        replace kz := below_cell kz b1
        replace kt := below_cell kt b1
        have g0 := below_frz d0 f0 b1
        have g1 := below_frz d1 f1 b1
        have g2 := below_frz d2 f2 b1
        replace d0 := below_cell d0 b1
        replace d1 := below_cell d1 b1
        replace d2 := below_cell d2 b1
        clear f0 f1 f2
        go_wp2_with (first | (go_at_call 42; (with_reducible refine (cN _).mono ?_); rintro r wn ⟨rfl, e⟩; replace e := e.symm; subst e) | (go_at_call 43; (with_reducible refine (cH _ b1 k0).mono ?_); rintro r wn ⟨rfl, e⟩; replace e := e.symm; subst e))
        have p10 := set3_0 d0 (.slice none 0 0) (.slice none 0 0) (.slice none 0 0)
        have p11 := set3_1 d1 (.slice none 0 0) (.slice none 0 0) (.slice none 0 0)
        have p12 := set3_2 d2 (.slice none 0 0) (.slice none 0 0) (.slice none 0 0)
        rw [EF.out]
        refine bodyPost_ret (v := .tuple #[.agg #[.slice none 0 0, .slice none 0 0, .slice none 0 0], .int .i64 4]) (by simp [results, Try.results8, go_sem, p10, p11, p12]) rfl ⟨⟨none, 0, 0, none, 0, 0, none, 0, 0⟩, by simp [SV.v, *], ⟨by simpa [*] using World.ownsRow_nil _ _ _ _, by simpa [*] using World.ownsRow_nil _ _ _ _, by simpa [*] using World.ownsRow_nil _ _ _ _, fun b h => by simp [Value.ownBlock] at h, fun b h => by simp [Value.ownBlock] at h, fun b h => by simp [Value.ownBlock] at h⟩, bl_set3 (by omega) (b0.trans (b1.mono b0.size))⟩
      | false =>
        go_enter Try.func8, Try.ntmps8
        go_wp2_with fail
        rw [← HW.out]
        refine hc.mono ?_
        rintro r w1 ⟨rfl, b1⟩
        clear hc
        replace k0 := below_cell k0 b1
        replace k1 := below_cell k1 b1
        replace k2 := below_cell k2 b1
        replace kz := below_cell kz b1
        replace kt := below_cell kt b1
        have hBw := Nat.le_trans hB b0.size
        have z1 := b1.size
        have b2 := b0.trans (b1.mono b0.size)
        replace f0 := below_frz d0 f0 b1
        replace f1 := below_frz d1 f1 b1
        replace f2 := below_frz d2 f2 b1
        replace d0 := below_cell d0 b1
        replace d1 := below_cell d1 b1
        replace d2 := below_cell d2 b1
        replace x1 := x1.below (b1.mono hBw)
        replace x2 := x2.below (b1.mono hBw)
        replace x3 := x3.below (b1.mono hBw)
        obtain ⟨i0, hi, hz0, hz1, hz2⟩ := info_parts str_info
        obtain ⟨j0, hj, hy0, hy1, hy2⟩ := info_parts Way_info
        obtain ⟨W3, hW3⟩ : ∃ W3, W3 = w1.alloc (.cells #[.slice none 0 0, .slice none 0 0, .slice none 0 0] 29) := ⟨_, rfl⟩
        have bb : Below w1.heap.size w1 W3 := by rw [hW3]; exact (Below.refl _ _).alloc (Nat.le_refl _) _
        have z3 : W3.heap.size = w1.heap.size + 1 := by rw [hW3]; simp
        have X0 : XAt W3 w1.heap.size w1.heap.size ⟨none, 0, 0, none, 0, 0, none, 0, 0⟩ ⟨[], [], []⟩ := by
          refine ⟨?_, ?_, ?_, ?_, ?_, ?_, ⟨World.ownsRow_nil _ _ _ _, World.ownsRow_nil _ _ _ _, World.ownsRow_nil _ _ _ _, fun b h => by simp [Value.ownBlock] at h, fun b h => by simp [Value.ownBlock] at h, fun b h => by simp [Value.ownBlock] at h⟩, by simp [Value.ownBlock], by simp [Value.ownBlock], by simp [Value.ownBlock]⟩
          all_goals rw [hW3]
          all_goals go_simp
        have XH := hid X0
        have HW3 := hid hW3
        clear hW3 X0
        have lt0 := World.block_lt_of_cell? _ _ k0
        simp only at lt0
        go_wp2_with (first | (go_at_call 42; (with_reducible refine (cN _).mono ?_); rintro r wn ⟨rfl, e⟩; replace e := e.symm; subst e) | (go_at_call 43; (with_reducible refine (cH _ b1 k0).mono ?_); rintro r wn ⟨rfl, e⟩; replace e := e.symm; subst e))
        rw [← HW3.out]
        clear cN cH
        go_loopw [12, 39] (fun _ i wl => ∃ (k : Nat) (s2 : SV), k ≤ n1 ∧ i = .int .i64 k ∧ Hid (XAt wl w1.heap.size w1.heap.size s2 ⟨(x.st.take k).map (renS z t), [], []⟩) ∧ Below w1.heap.size w1 wl ∧ W3.heap.size ≤ wl.heap.size) (fun _ i _ => n1 - (intOf i).toNat)
        case atStart => exact ⟨0, _, Nat.zero_le _, rfl, XH, bb, by omega⟩
        case round =>
          obtain ⟨k, s2, hk, rfl, hX, hb, hsz⟩ := hrel
          clear bb
          have zb := hb.size
          have kk0 := below_cell k0 hb
          have kk1 := below_cell k1 hb
          have kk2 := below_cell k2 hb
          have kkz := below_cell kz hb
          have kkt := below_cell kt hb
          have hbB : Below B w1 wr := hb.mono (by omega)
          by_cases hlt : k < n1
          · obtain ⟨y, b, off, Hy, rfl, hbb, l0⟩ := (x1.below hbB).str hlt
            have hi0 : (0 : Int) ≤ (k : Int) := by omega
            have hi1 : (k : Int) < (n1 : Int) := by omega
            have SN := hid (map_snoc (f := (renS z t)) Hy.out)
            obtain ⟨B1, m1, e1, B2, m2, e2, B3, m3, e3⟩ := s2
            have hXo := hX.out
            have hlen := hXo.len
            simp only at hlen
            have hr := hXo.own.st
            have hlr := hid hr.lt
            simp only at hr
            have g0 := hXo.k0
            have fz := hXo.f0
            have q9 := hXo.o1
            simp only at g0 q9
            have lg := hXo.lt
            have hm : m1 ≤ 2000000 := by have h1 := hlen.1; have h3 : (x.st.take k).length ≤ k := List.length_take_le _ _; simp only [List.length_map] at h1; omega
            have cR := fun (W : World) h1 h2 => ren1_any (w.heap.size + 1) (w.heap.size + 1 + 1) z t y W h1 h2
            generalize renS z t y = u at cR SN
            have HXo := hid hXo
            clear x1 x2 x3 hX hXo hlen
            have hkz := hid kkz
            have hkt := hid kkt
            have dkz := below_cell kkz ((Below.refl wr.heap.size wr).drew)
            have dkt := below_cell kkt ((Below.refl wr.heap.size wr).drew)
            go_wp2_with fail
            go_region_law (first | (go_simp; go_at_call 44; (with_reducible refine (cR _ dkz dkt).mono ?_); rintro r wn ⟨rfl, e⟩; replace e := e.symm; subst e) | (refine step_append_lies _ (by rfl) _ _ _ (by rfl) w1.heap.size 9 i0 _ 1 16 Try.underlying22 hi hz0 hz1 hz2 rfl (by omega) (.slice B1 m1 e1) m1 (((x.st.take k).map (renS z t)).flatMap encS) (by rfl) ((ow_drew hr).alloc _) ⟨wr.heap.size, 0, none⟩ 1 1 [.string u] (by rfl) (by rfl) (World.news_of_block (cs := #[.string u]) (t := 9) (fr := (0, 0)) (heap_alloc_new wr.drew _)) (by simp [Value.oneCell']) (by omega) (by simp only [maxLen]; omega) (by omega) (by simp; omega) (wr.heap.size + 1) (by simp) ?_; intro gg cap w5 ho3 hg3 hat3 hlt3; have hgg := (gr_alloc (gr_drew (World.grownBy.refl wr _))).trans hg3; have f3 := (hgg.frozen_far ⟨w1.heap.size, 0, none⟩ lg (fun e => q9 e.symm)).trans fz; have k3 : ∃ v, w5.cell? ⟨w1.heap.size, 0, none⟩ = some v := ⟨_, hgg.cell g0 (fun e => q9 e.symm)⟩; obtain ⟨v3, k3⟩ := k3))
            all_goals
              have HX6 := HXo.out.put1 (z := u) (H := wr.heap.size + 1) hgg (by omega) hat3 (by simpa [encS] using ho3)
              have HX7 : Hid (XAt (w5.setCell ⟨w1.heap.size, 0, none⟩ (.slice (some ⟨gg, 0, none⟩) (m1 + 1) cap)) w1.heap.size w1.heap.size ⟨some ⟨gg, 0, none⟩, m1 + 1, cap, B2, m2, e2, B3, m3, e3⟩ ⟨(x.st.take (k + 1)).map (renS z t), [], []⟩) := by rw [Hid, SN.out]; exact HX6
              have hb6 : Below w1.heap.size w1 (w5.setCell ⟨w1.heap.size, 0, none⟩ (.slice (some ⟨gg, 0, none⟩) (m1 + 1) cap)) := bl_set (by simp only; omega) ((hb.drew.alloc (by simp; omega) _).grown hg3 (by simp; omega) (fun b hb => (hlr.out b hb).1))
              have hs6 : W3.heap.size ≤ (w5.setCell ⟨w1.heap.size, 0, none⟩ (.slice (some ⟨gg, 0, none⟩) (m1 + 1) cap)).heap.size := by have := hgg.size; simp; omega
              clear HX6 ho3 hgg hg3
              go_wp2_with fail
              go_roundw
              all_goals first | exact ⟨k + 1, _, by omega, by go_num, HX7, hb6, hs6⟩ | exact ⟨⟨k + 1, _, by omega, by go_num, HX7, hb6, hs6⟩, by simp [intOf]; omega⟩ | (simp [intOf]; omega)
          · have hkn : k = n1 := by omega
            subst hkn
            have hX2 := hX.out
            rw [List.take_of_length_le (by rw [L1.out]; exact Nat.le_refl _)] at hX2
            have X1 := hid hX2
            clear hX hX2
            have bb := hb
            have hszq := hsz
            clear zb hb hbB hlt hk hsz kkz kkt
            go_wp2_with fail
            obtain ⟨wq, hwq⟩ : ∃ wq : World, wq = wr := ⟨_, rfl⟩
            subst hwq
            go_loopw [14, 55] (fun _ i wl => ∃ (k : Nat) (s2 : SV), k ≤ n2 ∧ i = .int .i64 k ∧ Hid (XAt wl w1.heap.size w1.heap.size s2 ⟨x.st.map (renS z t), (x.rm.take k).map (renS z t), []⟩) ∧ Below w1.heap.size w1 wl ∧ W3.heap.size ≤ wl.heap.size) (fun _ i _ => n2 - (intOf i).toNat)
            case atStart => exact ⟨0, _, Nat.zero_le _, rfl, (by simpa [Hid] using X1.out), bb, by omega⟩
            case round =>
              obtain ⟨k, s2, hk, rfl, hX, hb, hsz⟩ := hrel
              clear bb hszq
              have zb := hb.size
              have kk1 := below_cell k1 hb
              have kk2 := below_cell k2 hb
              have kkz := below_cell kz hb
              have kkt := below_cell kt hb
              have hbB : Below B w1 wr := hb.mono (by omega)
              by_cases hlt : k < n2
              · obtain ⟨y, b, off, Hy, rfl, hbb, l0⟩ := (x2.below hbB).str hlt
                have hi0 : (0 : Int) ≤ (k : Int) := by omega
                have hi1 : (k : Int) < (n2 : Int) := by omega
                have SN := hid (map_snoc (f := (renS z t)) Hy.out)
                obtain ⟨B1, m1, e1, B2, m2, e2, B3, m3, e3⟩ := s2
                have hXo := hX.out
                have hlen := hXo.len
                simp only at hlen
                have hr := hXo.own.rm
                have hlr := hid hr.lt
                simp only at hr
                have g0 := hXo.k1
                have fz := hXo.f1
                have q9 := hXo.o2
                simp only at g0 q9
                have lg := hXo.lt
                have hm : m2 ≤ 2000000 := by have h1 := hlen.2.1; have h3 : (x.rm.take k).length ≤ k := List.length_take_le _ _; simp only [List.length_map] at h1; omega
                have cR := fun (W : World) h1 h2 => ren1_any (w.heap.size + 1) (w.heap.size + 1 + 1) z t y W h1 h2
                generalize renS z t y = u at cR SN
                have HXo := hid hXo
                clear x2 x3 hX hXo hlen
                have hkz := hid kkz
                have hkt := hid kkt
                have dkz := below_cell kkz ((Below.refl wr.heap.size wr).drew)
                have dkt := below_cell kkt ((Below.refl wr.heap.size wr).drew)
                go_wp2_with fail
                go_region_law (first | (go_simp; go_at_call 44; (with_reducible refine (cR _ dkz dkt).mono ?_); rintro r wn ⟨rfl, e⟩; replace e := e.symm; subst e) | (refine step_append_lies _ (by rfl) _ _ _ (by rfl) w1.heap.size 9 i0 _ 1 16 Try.underlying22 hi hz0 hz1 hz2 rfl (by omega) (.slice B2 m2 e2) m2 (((x.rm.take k).map (renS z t)).flatMap encS) (by rfl) ((ow_drew hr).alloc _) ⟨wr.heap.size, 0, none⟩ 1 1 [.string u] (by rfl) (by rfl) (World.news_of_block (cs := #[.string u]) (t := 9) (fr := (0, 0)) (heap_alloc_new wr.drew _)) (by simp [Value.oneCell']) (by omega) (by simp only [maxLen]; omega) (by omega) (by simp; omega) (wr.heap.size + 1) (by simp) ?_; intro gg cap w5 ho3 hg3 hat3 hlt3; have hgg := (gr_alloc (gr_drew (World.grownBy.refl wr _))).trans hg3; have f3 := (hgg.frozen_far ⟨w1.heap.size, 1, none⟩ lg (fun e => q9 e.symm)).trans fz; have k3 : ∃ v, w5.cell? ⟨w1.heap.size, 1, none⟩ = some v := ⟨_, hgg.cell g0 (fun e => q9 e.symm)⟩; obtain ⟨v3, k3⟩ := k3))
                all_goals
                  have HX6 := HXo.out.put2 (z := u) (H := wr.heap.size + 1) hgg (by omega) hat3 (by simpa [encS] using ho3)
                  have HX7 : Hid (XAt (w5.setCell ⟨w1.heap.size, 1, none⟩ (.slice (some ⟨gg, 0, none⟩) (m2 + 1) cap)) w1.heap.size w1.heap.size ⟨B1, m1, e1, some ⟨gg, 0, none⟩, m2 + 1, cap, B3, m3, e3⟩ ⟨x.st.map (renS z t), (x.rm.take (k + 1)).map (renS z t), []⟩) := by rw [Hid, SN.out]; exact HX6
                  have hb6 : Below w1.heap.size w1 (w5.setCell ⟨w1.heap.size, 1, none⟩ (.slice (some ⟨gg, 0, none⟩) (m2 + 1) cap)) := bl_set (by simp only; omega) ((hb.drew.alloc (by simp; omega) _).grown hg3 (by simp; omega) (fun b hb => (hlr.out b hb).1))
                  have hs6 : W3.heap.size ≤ (w5.setCell ⟨w1.heap.size, 1, none⟩ (.slice (some ⟨gg, 0, none⟩) (m2 + 1) cap)).heap.size := by have := hgg.size; simp; omega
                  clear HX6 ho3 hgg hg3
                  go_wp2_with fail
                  go_roundw
                  all_goals first | exact ⟨k + 1, _, by omega, by go_num, HX7, hb6, hs6⟩ | exact ⟨⟨k + 1, _, by omega, by go_num, HX7, hb6, hs6⟩, by simp [intOf]; omega⟩ | (simp [intOf]; omega)
              · have hkn : k = n2 := by omega
                subst hkn
                have hX2 := hX.out
                rw [List.take_of_length_le (by rw [L2.out]; exact Nat.le_refl _)] at hX2
                have X2 := hid hX2
                clear hX hX2
                have bb := hb
                have hszq := hsz
                clear zb hb hbB hlt hk hsz kkz kkt
                go_wp2_with fail
                obtain ⟨wq, hwq⟩ : ∃ wq : World, wq = wr := ⟨_, rfl⟩
                subst hwq
                go_loopw [16, 71] (fun _ i wl => ∃ (k : Nat) (s2 : SV), k ≤ n3 ∧ i = .int .i64 k ∧ Hid (XAt wl w1.heap.size w1.heap.size s2 ⟨x.st.map (renS z t), x.rm.map (renS z t), (x.wy.take k).map (renW z t)⟩) ∧ Below w1.heap.size w1 wl ∧ W3.heap.size ≤ wl.heap.size) (fun _ i _ => n3 - (intOf i).toNat)
                case atStart => exact ⟨0, _, Nat.zero_le _, rfl, (by simpa [Hid] using X2.out), bb, by omega⟩
                case round =>
                  obtain ⟨k, s2, hk, rfl, hX, hb, hsz⟩ := hrel
                  clear bb hszq
                  have zb := hb.size
                  have kk2 := below_cell k2 hb
                  have kkz := below_cell kz hb
                  have kkt := below_cell kt hb
                  have hbB : Below B w1 wr := hb.mono (by omega)
                  by_cases hlt : k < n3
                  · obtain ⟨f, g, m, b, off, Hy, rfl, hbb, l0, l1, l2⟩ := (x3.below hbB).atWay hlt
                    have hi0 : (0 : Int) ≤ (k : Int) := by omega
                    have hi1 : (k : Int) < (n3 : Int) := by omega
                    have SN := hid (map_snoc (f := (renW z t)) Hy.out)
                    obtain ⟨B1, m1, e1, B2, m2, e2, B3, m3, e3⟩ := s2
                    obtain ⟨Wa, hWa⟩ : ∃ Wa, Wa = wr.alloc (.cells #[.string f, .string g, .int .i64 m] 54) := ⟨_, rfl⟩
                    have ba : Below wr.heap.size wr Wa := by rw [hWa]; exact (Below.refl _ _).alloc (Nat.le_refl _) _
                    have y0 : Wa.cell? ⟨wr.heap.size, 0, none⟩ = some (.string f) := by rw [hWa]; exact (World.cell?_alloc_at _ _ _ _ rfl).trans rfl
                    have y1 : Wa.cell? ⟨wr.heap.size, 1, none⟩ = some (.string g) := by rw [hWa]; exact (World.cell?_alloc_at _ _ _ _ rfl).trans rfl
                    have y2 : Wa.cell? ⟨wr.heap.size, 2, none⟩ = some (.int .i64 m) := by rw [hWa]; exact (World.cell?_alloc_at _ _ _ _ rfl).trans rfl
                    have za : wr.heap.size < Wa.heap.size := by rw [hWa]; simp
                    have HWa := hid hWa
                    clear hWa
                    have hX3 := hX.out.own.wy
                    simp only at hX3
                    have hXo := hX.out.below ba
                    replace kkz := below_cell kkz ba
                    replace kkt := below_cell kkt ba
                    have hba := hb.trans (ba.mono zb)
                    have hlen := hXo.len
                    simp only at hlen
                    have hr := hXo.own.wy
                    have hlr := hid hr.lt
                    simp only at hr
                    have g0 := hXo.k2
                    have fz := hXo.f2
                    have q9 := hXo.o3
                    simp only at g0 q9
                    have lg := hXo.lt
                    have hm : m3 ≤ 2000000 := by have h1 := hlen.2.2; have h3 : (x.wy.take k).length ≤ k := List.length_take_le _ _; simp only [List.length_map] at h1; omega
                    have cR := fun (W : World) h1 h2 => ren1_any (w.heap.size + 1) (w.heap.size + 1 + 1) z t f W h1 h2
                    have cQ := fun (W : World) h1 h2 => ren1_any (w.heap.size + 1) (w.heap.size + 1 + 1) z t g W h1 h2
                    have SN0 := SN.out
                    rw [show renW z t ⟨f, g, m⟩ = ⟨renS z t f, renS z t g, m⟩ from rfl] at SN0
                    generalize renS z t f = u at cR SN0
                    generalize renS z t g = v at cQ SN0
                    have SN1 := hid SN0
                    clear SN SN0
                    have SN := SN1
                    clear SN1
                    have HXo := hid hXo
                    clear x3 hX hXo hlen
                    have hkz := hid kkz
                    have hkt := hid kkt
                    have dkz := below_cell kkz ((Below.refl Wa.heap.size Wa).drew)
                    have dkt := below_cell kkt ((Below.refl Wa.heap.size Wa).drew)
                    go_wp2_with fail
                    rw [← HWa.out]
                    have ny : (Value.slice B3 m3 e3).ownBlock ≠ some wr.heap.size := fun e => by have := (hX3.lt _ e).2; omega
                    have lwr : w1.heap.size < wr.heap.size := by omega
                    refine wp_region_held_drew (S := (fun W => W.cell? ⟨wr.heap.size, 0, none⟩ = some (.string f) ∧ W.cell? ⟨wr.heap.size, 1, none⟩ = some (.string g) ∧ W.cell? ⟨wr.heap.size, 2, none⟩ = some (.int .i64 m))) (by kernel_rfl) ?_ (fun hHeld => ?_)
                    · (try dsimp only); (first | (go_split_ands; exact ⟨s0, s1, s2⟩) | (go_split_ands; exact ⟨(cell_far (by simp only; omega)).trans s0, (cell_far (by simp only; omega)).trans s1, (cell_far (by simp only; omega)).trans s2⟩) | go_keep)
                    refine wpAnyH_take (i := 0) (oi := ⟨some 75, .fieldAddr 29 (.tmp 10) 2, 0, "l21_language.go:267", #[], none⟩) (v := ?_) rfl (by kernel_rfl) (by kernel_rfl) (by kernel_rfl) (fun _ _ _ h => h) (Or.inl ⟨by rfl, ?_⟩) (by assumption) ?_
                    rotate_left
                    · intro w hSw; (try dsimp only at hSw); go_split_ands; go_simp; first | done | with_reducible rfl
                    (try simp only [Act.put, List.setIfInBounds_toArray, List.set_cons_zero, List.set_cons_succ])
                    refine wpAnyH_take (i := 2) (oi := ⟨some 77, .move (.tmp 9), 66, "l21_language.go:267", #[], none⟩) (v := ?_) rfl (by kernel_rfl) (by kernel_rfl) (by kernel_rfl) (fun _ _ _ h => h) (Or.inl ⟨by rfl, ?_⟩) (by assumption) ?_
                    rotate_left
                    · intro w hSw; (try dsimp only at hSw); go_split_ands; go_simp; first | done | with_reducible rfl
                    (try simp only [Act.put, List.setIfInBounds_toArray, List.set_cons_zero, List.set_cons_succ])
                    refine wpAnyH_take (i := 3) (oi := ⟨some 78, .fieldAddr 54 (.tmp 16) 0, 0, "l21_language.go:267", #[], none⟩) (v := ?_) rfl (by kernel_rfl) (by kernel_rfl) (by kernel_rfl) (fun _ _ _ h => h) (Or.inl ⟨by rfl, ?_⟩) (by assumption) ?_
                    rotate_left
                    · intro w hSw; (try dsimp only at hSw); go_split_ands; go_simp; first | done | with_reducible rfl
                    (try simp only [Act.put, List.setIfInBounds_toArray, List.set_cons_zero, List.set_cons_succ])
                    refine wpAnyH_take (i := 4) (oi := ⟨some 79, .load 9 (.tmp 78), 9, "l21_language.go:267", #[⟨3, .data⟩], none⟩) (v := ?_) rfl (by kernel_rfl) (by kernel_rfl) (by kernel_rfl) (fun _ _ _ h => h) (Or.inl ⟨by rfl, ?_⟩) (by assumption) ?_
                    rotate_left
                    · intro w hSw; (try dsimp only at hSw); go_split_ands; go_simp; first | done | with_reducible rfl
                    (try simp only [Act.put, List.setIfInBounds_toArray, List.set_cons_zero, List.set_cons_succ])
                    refine wpAnyH_take (i := 6) (oi := ⟨some 81, .move (.tmp 9), 66, "l21_language.go:267", #[], none⟩) (v := ?_) rfl (by kernel_rfl) (by kernel_rfl) (by kernel_rfl) (fun _ _ _ h => h) (Or.inl ⟨by rfl, ?_⟩) (by assumption) ?_
                    rotate_left
                    · intro w hSw; (try dsimp only at hSw); go_split_ands; go_simp; first | done | with_reducible rfl
                    (try simp only [Act.put, List.setIfInBounds_toArray, List.set_cons_zero, List.set_cons_succ])
                    refine wpAnyH_take (i := 7) (oi := ⟨some 82, .fieldAddr 54 (.tmp 16) 1, 0, "l21_language.go:267", #[], none⟩) (v := ?_) rfl (by kernel_rfl) (by kernel_rfl) (by kernel_rfl) (fun _ _ _ h => h) (Or.inl ⟨by rfl, ?_⟩) (by assumption) ?_
                    rotate_left
                    · intro w hSw; (try dsimp only at hSw); go_split_ands; go_simp; first | done | with_reducible rfl
                    (try simp only [Act.put, List.setIfInBounds_toArray, List.set_cons_zero, List.set_cons_succ])
                    refine wpAnyH_take (i := 8) (oi := ⟨some 83, .load 9 (.tmp 82), 9, "l21_language.go:267", #[⟨7, .data⟩], none⟩) (v := ?_) rfl (by kernel_rfl) (by kernel_rfl) (by kernel_rfl) (fun _ _ _ h => h) (Or.inl ⟨by rfl, ?_⟩) (by assumption) ?_
                    rotate_left
                    · intro w hSw; (try dsimp only at hSw); go_split_ands; go_simp; first | done | with_reducible rfl
                    (try simp only [Act.put, List.setIfInBounds_toArray, List.set_cons_zero, List.set_cons_succ])
                    refine wpAnyH_take (i := 10) (oi := ⟨some 85, .fieldAddr 54 (.tmp 16) 2, 0, "l21_language.go:267", #[], none⟩) (v := ?_) rfl (by kernel_rfl) (by kernel_rfl) (by kernel_rfl) (fun _ _ _ h => h) (Or.inl ⟨by rfl, ?_⟩) (by assumption) ?_
                    rotate_left
                    · intro w hSw; (try dsimp only at hSw); go_split_ands; go_simp; first | done | with_reducible rfl
                    (try simp only [Act.put, List.setIfInBounds_toArray, List.set_cons_zero, List.set_cons_succ])
                    refine wpAnyH_take (i := 11) (oi := ⟨some 86, .load 2 (.tmp 85), 2, "l21_language.go:267", #[⟨10, .data⟩], none⟩) (v := ?_) rfl (by kernel_rfl) (by kernel_rfl) (by kernel_rfl) (fun _ _ _ h => h) (Or.inl ⟨by rfl, ?_⟩) (by assumption) ?_
                    rotate_left
                    · intro w hSw; (try dsimp only at hSw); go_split_ands; go_simp; first | done | with_reducible rfl
                    (try simp only [Act.put, List.setIfInBounds_toArray, List.set_cons_zero, List.set_cons_succ])
                    refine wpAnyH_ready (rs := [1, 5]) (by kernel_rfl) (by simp) ?_
                    refine AllReadyH.cons rfl (fun K hK => ?_) ?_
                    · skip
                      go_simp
                      refine hK.out _ _ ?_ (fun hH2 => ?_)
                      · (try dsimp only); (first | (go_split_ands; exact ⟨s0, s1, s2⟩) | (go_split_ands; exact ⟨(cell_far (by simp only; omega)).trans s0, (cell_far (by simp only; omega)).trans s1, (cell_far (by simp only; omega)).trans s2⟩) | go_keep)
                      clear hK K hHeld; have hHeld := hH2; clear hH2
                      refine wpAnyH_ready (rs := [5]) (by kernel_rfl) (by simp) ?_
                      refine AllReadyH.cons rfl (fun K hK => ?_) ?_
                      · skip
                        go_simp
                        go_wp2_with (first | (go_at_call 44; (with_reducible refine (cR _ dkz dkt).mono ?_); rintro r wn ⟨rfl, e⟩; replace e := e.symm; subst e) | (go_at_call 44; (with_reducible refine (cQ _ dkz dkt).mono ?_); rintro r wn ⟨rfl, e⟩; replace e := e.symm; subst e))
                        refine hK.out _ _ ?_ (fun hH2 => ?_)
                        · (try dsimp only); (first | (go_split_ands; exact ⟨s0, s1, s2⟩) | (go_split_ands; exact ⟨(cell_far (by simp only; omega)).trans s0, (cell_far (by simp only; omega)).trans s1, (cell_far (by simp only; omega)).trans s2⟩) | go_keep)
                        clear hK K hHeld; have hHeld := hH2; clear hH2
                        refine wpAnyH_ready (rs := [9]) (by kernel_rfl) (by simp) ?_
                        refine AllReadyH.cons rfl (fun K hK => ?_) ?_
                        · skip
                          go_simp
                          go_wp2_with (first | (go_at_call 44; (with_reducible refine (cR _ dkz dkt).mono ?_); rintro r wn ⟨rfl, e⟩; replace e := e.symm; subst e) | (go_at_call 44; (with_reducible refine (cQ _ dkz dkt).mono ?_); rintro r wn ⟨rfl, e⟩; replace e := e.symm; subst e))
                          refine hK.out _ _ ?_ (fun hH2 => ?_)
                          · (try dsimp only); (first | (go_split_ands; exact ⟨s0, s1, s2⟩) | (go_split_ands; exact ⟨(cell_far (by simp only; omega)).trans s0, (cell_far (by simp only; omega)).trans s1, (cell_far (by simp only; omega)).trans s2⟩) | go_keep)
                          clear hK K hHeld; have hHeld := hH2; clear hH2
                          refine wpAnyH_take (i := 12) (oi := ⟨some 87, .build 54 #[(0, .tmp 80), (1, .tmp 84), (2, .tmp 86)], 54, "l21_language.go:267", #[⟨5, .data⟩, ⟨9, .data⟩, ⟨11, .data⟩], none⟩) (v := ?_) rfl (by kernel_rfl) (by kernel_rfl) (by kernel_rfl) (fun _ _ _ h => h) (Or.inl ⟨by rfl, ?_⟩) (by assumption) ?_
                          rotate_left
                          · intro w hSw; (try dsimp only at hSw); go_split_ands; go_simp; first | done | with_reducible rfl
                          (try simp only [Act.put, List.setIfInBounds_toArray, List.set_cons_zero, List.set_cons_succ])
                          refine wpAnyH_ready (rs := [13]) (by kernel_rfl) (by simp) ?_
                          refine AllReadyH.cons rfl (fun K hK => ?_) ?_
                          · skip
                            go_simp
                            refine hK.out _ _ ?_ (fun hH2 => ?_)
                            · (try dsimp only); (first | (go_split_ands; exact ⟨s0, s1, s2⟩) | (go_split_ands; exact ⟨(cell_far (by simp only; omega)).trans s0, (cell_far (by simp only; omega)).trans s1, (cell_far (by simp only; omega)).trans s2⟩) | go_keep)
                            clear hK K hHeld; have hHeld := hH2; clear hH2
                            refine wpAnyH_ready (rs := [14]) (by kernel_rfl) (by simp) ?_
                            refine AllReadyH.cons rfl (fun K hK => ?_) ?_
                            · skip
                              refine step_append_lies _ (by rfl) _ _ _ (by rfl) w1.heap.size 54 j0 _ 3 40 Try.underlying27 hj hy0 hy1 hy2 rfl (by omega) (.slice B3 m3 e3) m3 (((x.wy.take k).map (renW z t)).flatMap encWay) (by rfl) ((ow_drew hr).alloc _) ⟨Wa.heap.size, 0, none⟩ 1 1 [.string u, .string v, .int .i64 m] (by rfl) (by rfl) (World.news_of_block (cs := #[.string u, .string v, .int .i64 m]) (t := 54) (fr := (0, 0)) (heap_alloc_new Wa.drew _)) (by simp [Value.oneCell']) (by omega) (by simp only [maxLen]; omega) (by omega) (by simp; omega) (Wa.heap.size + 1) (by simp) ?_; intro gg cap w5 ho3 hg3 hat3 hlt3; have hgg := (gr_alloc (gr_drew (World.grownBy.refl Wa _))).trans hg3; have f3 := (hgg.frozen_far ⟨w1.heap.size, 2, none⟩ lg (fun e => q9 e.symm)).trans fz; have k3 : ∃ v, w5.cell? ⟨w1.heap.size, 2, none⟩ = some v := ⟨_, hgg.cell g0 (fun e => q9 e.symm)⟩; obtain ⟨v3, k3⟩ := k3; have s0 := hgg.cell y0 (fun e => ny e.symm); have s1 := hgg.cell y1 (fun e => ny e.symm); have s2 := hgg.cell y2 (fun e => ny e.symm)
                              refine hK.out _ _ ?_ (fun hH2 => ?_)
                              · (try dsimp only); (first | (go_split_ands; exact ⟨s0, s1, s2⟩) | (go_split_ands; exact ⟨(cell_far (by simp only; omega)).trans s0, (cell_far (by simp only; omega)).trans s1, (cell_far (by simp only; omega)).trans s2⟩) | go_keep)
                              clear hK K hHeld; have hHeld := hH2; clear hH2
                              refine wpAnyH_take (i := 15) (oi := ⟨some 90, .fieldAddr 29 (.tmp 10) 2, 0, "l21_language.go:267", #[⟨0, .phase⟩, ⟨1, .phase⟩, ⟨2, .phase⟩, ⟨3, .phase⟩, ⟨4, .phase⟩, ⟨5, .phase⟩, ⟨6, .phase⟩, ⟨7, .phase⟩, ⟨8, .phase⟩, ⟨9, .phase⟩, ⟨10, .phase⟩, ⟨11, .phase⟩, ⟨12, .phase⟩, ⟨13, .phase⟩, ⟨14, .phase⟩], none⟩) (v := ?_) rfl (by kernel_rfl) (by kernel_rfl) (by kernel_rfl) (fun _ _ _ h => h) (Or.inl ⟨by rfl, ?_⟩) (by assumption) ?_
                              rotate_left
                              · intro w hSw; (try dsimp only at hSw); go_split_ands; go_simp; first | done | with_reducible rfl
                              (try simp only [Act.put, List.setIfInBounds_toArray, List.set_cons_zero, List.set_cons_succ])
                              refine wpAnyH_ready (rs := [16]) (by kernel_rfl) (by simp) ?_
                              refine AllReadyH.cons rfl (fun K hK => ?_) ?_
                              · skip
                                go_simp
                                refine hK.out _ _ ?_ (fun hH2 => ?_)
                                · (try dsimp only); (first | (go_split_ands; exact ⟨s0, s1, s2⟩) | (go_split_ands; exact ⟨(cell_far (by simp only; omega)).trans s0, (cell_far (by simp only; omega)).trans s1, (cell_far (by simp only; omega)).trans s2⟩) | go_keep)
                                clear hK K hHeld; have hHeld := hH2; clear hH2
                                refine wpAnyH_done (by kernel_rfl) ?_ _
                                have HX6 := HXo.out.put3 (z := ⟨u, v, m⟩) (H := Wa.heap.size + 1) hgg (by omega) hat3 (by simpa [encWay] using ho3)
                                have HX7 : Hid (XAt (w5.setCell ⟨w1.heap.size, 2, none⟩ (.slice (some ⟨gg, 0, none⟩) (m3 + 1) cap)) w1.heap.size w1.heap.size ⟨B1, m1, e1, B2, m2, e2, some ⟨gg, 0, none⟩, m3 + 1, cap⟩ ⟨x.st.map (renS z t), x.rm.map (renS z t), (x.wy.take (k + 1)).map (renW z t)⟩) := by rw [Hid, SN.out]; exact HX6
                                have hb6 : Below w1.heap.size w1 (w5.setCell ⟨w1.heap.size, 2, none⟩ (.slice (some ⟨gg, 0, none⟩) (m3 + 1) cap)) := bl_set (by simp only; omega) ((hba.drew.alloc (by simp; omega) _).grown hg3 (by simp; omega) (fun b hb => (hlr.out b hb).1))
                                have hs6 : W3.heap.size ≤ (w5.setCell ⟨w1.heap.size, 2, none⟩ (.slice (some ⟨gg, 0, none⟩) (m3 + 1) cap)).heap.size := by have := hgg.size; simp; omega
                                clear HX6 ho3 hgg hg3
                                go_wp2_with fail
                                go_roundw
                                all_goals first | exact ⟨k + 1, _, by omega, by go_num, HX7, hb6, hs6⟩ | exact ⟨⟨k + 1, _, by omega, by go_num, HX7, hb6, hs6⟩, by simp [intOf]; omega⟩ | (simp [intOf]; omega)
                              exact AllReadyH.nil
                            exact AllReadyH.nil
                          exact AllReadyH.nil
                        exact AllReadyH.nil
                      exact AllReadyH.nil
                    refine AllReadyH.cons rfl (fun K hK => ?_) ?_
                    · skip
                      go_simp
                      go_wp2_with (first | (go_at_call 44; (with_reducible refine (cR _ dkz dkt).mono ?_); rintro r wn ⟨rfl, e⟩; replace e := e.symm; subst e) | (go_at_call 44; (with_reducible refine (cQ _ dkz dkt).mono ?_); rintro r wn ⟨rfl, e⟩; replace e := e.symm; subst e))
                      refine hK.out _ _ ?_ (fun hH2 => ?_)
                      · (try dsimp only); (first | (go_split_ands; exact ⟨s0, s1, s2⟩) | (go_split_ands; exact ⟨(cell_far (by simp only; omega)).trans s0, (cell_far (by simp only; omega)).trans s1, (cell_far (by simp only; omega)).trans s2⟩) | go_keep)
                      clear hK K hHeld; have hHeld := hH2; clear hH2
                      refine wpAnyH_ready (rs := [1, 9]) (by kernel_rfl) (by simp) ?_
                      refine AllReadyH.cons rfl (fun K hK => ?_) ?_
                      · skip
                        go_simp
                        refine hK.out _ _ ?_ (fun hH2 => ?_)
                        · (try dsimp only); (first | (go_split_ands; exact ⟨s0, s1, s2⟩) | (go_split_ands; exact ⟨(cell_far (by simp only; omega)).trans s0, (cell_far (by simp only; omega)).trans s1, (cell_far (by simp only; omega)).trans s2⟩) | go_keep)
                        clear hK K hHeld; have hHeld := hH2; clear hH2
                        refine wpAnyH_ready (rs := [9]) (by kernel_rfl) (by simp) ?_
                        refine AllReadyH.cons rfl (fun K hK => ?_) ?_
                        · skip
                          go_simp
                          go_wp2_with (first | (go_at_call 44; (with_reducible refine (cR _ dkz dkt).mono ?_); rintro r wn ⟨rfl, e⟩; replace e := e.symm; subst e) | (go_at_call 44; (with_reducible refine (cQ _ dkz dkt).mono ?_); rintro r wn ⟨rfl, e⟩; replace e := e.symm; subst e))
                          refine hK.out _ _ ?_ (fun hH2 => ?_)
                          · (try dsimp only); (first | (go_split_ands; exact ⟨s0, s1, s2⟩) | (go_split_ands; exact ⟨(cell_far (by simp only; omega)).trans s0, (cell_far (by simp only; omega)).trans s1, (cell_far (by simp only; omega)).trans s2⟩) | go_keep)
                          clear hK K hHeld; have hHeld := hH2; clear hH2
                          refine wpAnyH_take (i := 12) (oi := ⟨some 87, .build 54 #[(0, .tmp 80), (1, .tmp 84), (2, .tmp 86)], 54, "l21_language.go:267", #[⟨5, .data⟩, ⟨9, .data⟩, ⟨11, .data⟩], none⟩) (v := ?_) rfl (by kernel_rfl) (by kernel_rfl) (by kernel_rfl) (fun _ _ _ h => h) (Or.inl ⟨by rfl, ?_⟩) (by assumption) ?_
                          rotate_left
                          · intro w hSw; (try dsimp only at hSw); go_split_ands; go_simp; first | done | with_reducible rfl
                          (try simp only [Act.put, List.setIfInBounds_toArray, List.set_cons_zero, List.set_cons_succ])
                          refine wpAnyH_ready (rs := [13]) (by kernel_rfl) (by simp) ?_
                          refine AllReadyH.cons rfl (fun K hK => ?_) ?_
                          · skip
                            go_simp
                            refine hK.out _ _ ?_ (fun hH2 => ?_)
                            · (try dsimp only); (first | (go_split_ands; exact ⟨s0, s1, s2⟩) | (go_split_ands; exact ⟨(cell_far (by simp only; omega)).trans s0, (cell_far (by simp only; omega)).trans s1, (cell_far (by simp only; omega)).trans s2⟩) | go_keep)
                            clear hK K hHeld; have hHeld := hH2; clear hH2
                            refine wpAnyH_ready (rs := [14]) (by kernel_rfl) (by simp) ?_
                            refine AllReadyH.cons rfl (fun K hK => ?_) ?_
                            · skip
                              refine step_append_lies _ (by rfl) _ _ _ (by rfl) w1.heap.size 54 j0 _ 3 40 Try.underlying27 hj hy0 hy1 hy2 rfl (by omega) (.slice B3 m3 e3) m3 (((x.wy.take k).map (renW z t)).flatMap encWay) (by rfl) ((ow_drew hr).alloc _) ⟨Wa.heap.size, 0, none⟩ 1 1 [.string u, .string v, .int .i64 m] (by rfl) (by rfl) (World.news_of_block (cs := #[.string u, .string v, .int .i64 m]) (t := 54) (fr := (0, 0)) (heap_alloc_new Wa.drew _)) (by simp [Value.oneCell']) (by omega) (by simp only [maxLen]; omega) (by omega) (by simp; omega) (Wa.heap.size + 1) (by simp) ?_; intro gg cap w5 ho3 hg3 hat3 hlt3; have hgg := (gr_alloc (gr_drew (World.grownBy.refl Wa _))).trans hg3; have f3 := (hgg.frozen_far ⟨w1.heap.size, 2, none⟩ lg (fun e => q9 e.symm)).trans fz; have k3 : ∃ v, w5.cell? ⟨w1.heap.size, 2, none⟩ = some v := ⟨_, hgg.cell g0 (fun e => q9 e.symm)⟩; obtain ⟨v3, k3⟩ := k3; have s0 := hgg.cell y0 (fun e => ny e.symm); have s1 := hgg.cell y1 (fun e => ny e.symm); have s2 := hgg.cell y2 (fun e => ny e.symm)
                              refine hK.out _ _ ?_ (fun hH2 => ?_)
                              · (try dsimp only); (first | (go_split_ands; exact ⟨s0, s1, s2⟩) | (go_split_ands; exact ⟨(cell_far (by simp only; omega)).trans s0, (cell_far (by simp only; omega)).trans s1, (cell_far (by simp only; omega)).trans s2⟩) | go_keep)
                              clear hK K hHeld; have hHeld := hH2; clear hH2
                              refine wpAnyH_take (i := 15) (oi := ⟨some 90, .fieldAddr 29 (.tmp 10) 2, 0, "l21_language.go:267", #[⟨0, .phase⟩, ⟨1, .phase⟩, ⟨2, .phase⟩, ⟨3, .phase⟩, ⟨4, .phase⟩, ⟨5, .phase⟩, ⟨6, .phase⟩, ⟨7, .phase⟩, ⟨8, .phase⟩, ⟨9, .phase⟩, ⟨10, .phase⟩, ⟨11, .phase⟩, ⟨12, .phase⟩, ⟨13, .phase⟩, ⟨14, .phase⟩], none⟩) (v := ?_) rfl (by kernel_rfl) (by kernel_rfl) (by kernel_rfl) (fun _ _ _ h => h) (Or.inl ⟨by rfl, ?_⟩) (by assumption) ?_
                              rotate_left
                              · intro w hSw; (try dsimp only at hSw); go_split_ands; go_simp; first | done | with_reducible rfl
                              (try simp only [Act.put, List.setIfInBounds_toArray, List.set_cons_zero, List.set_cons_succ])
                              refine wpAnyH_ready (rs := [16]) (by kernel_rfl) (by simp) ?_
                              refine AllReadyH.cons rfl (fun K hK => ?_) ?_
                              · skip
                                go_simp
                                refine hK.out _ _ ?_ (fun hH2 => ?_)
                                · (try dsimp only); (first | (go_split_ands; exact ⟨s0, s1, s2⟩) | (go_split_ands; exact ⟨(cell_far (by simp only; omega)).trans s0, (cell_far (by simp only; omega)).trans s1, (cell_far (by simp only; omega)).trans s2⟩) | go_keep)
                                clear hK K hHeld; have hHeld := hH2; clear hH2
                                refine wpAnyH_done (by kernel_rfl) ?_ _
                                have HX6 := HXo.out.put3 (z := ⟨u, v, m⟩) (H := Wa.heap.size + 1) hgg (by omega) hat3 (by simpa [encWay] using ho3)
                                have HX7 : Hid (XAt (w5.setCell ⟨w1.heap.size, 2, none⟩ (.slice (some ⟨gg, 0, none⟩) (m3 + 1) cap)) w1.heap.size w1.heap.size ⟨B1, m1, e1, B2, m2, e2, some ⟨gg, 0, none⟩, m3 + 1, cap⟩ ⟨x.st.map (renS z t), x.rm.map (renS z t), (x.wy.take (k + 1)).map (renW z t)⟩) := by rw [Hid, SN.out]; exact HX6
                                have hb6 : Below w1.heap.size w1 (w5.setCell ⟨w1.heap.size, 2, none⟩ (.slice (some ⟨gg, 0, none⟩) (m3 + 1) cap)) := bl_set (by simp only; omega) ((hba.drew.alloc (by simp; omega) _).grown hg3 (by simp; omega) (fun b hb => (hlr.out b hb).1))
                                have hs6 : W3.heap.size ≤ (w5.setCell ⟨w1.heap.size, 2, none⟩ (.slice (some ⟨gg, 0, none⟩) (m3 + 1) cap)).heap.size := by have := hgg.size; simp; omega
                                clear HX6 ho3 hgg hg3
                                go_wp2_with fail
                                go_roundw
                                all_goals first | exact ⟨k + 1, _, by omega, by go_num, HX7, hb6, hs6⟩ | exact ⟨⟨k + 1, _, by omega, by go_num, HX7, hb6, hs6⟩, by simp [intOf]; omega⟩ | (simp [intOf]; omega)
                              exact AllReadyH.nil
                            exact AllReadyH.nil
                          exact AllReadyH.nil
                        exact AllReadyH.nil
                      refine AllReadyH.cons rfl (fun K hK => ?_) ?_
                      · skip
                        go_simp
                        go_wp2_with (first | (go_at_call 44; (with_reducible refine (cR _ dkz dkt).mono ?_); rintro r wn ⟨rfl, e⟩; replace e := e.symm; subst e) | (go_at_call 44; (with_reducible refine (cQ _ dkz dkt).mono ?_); rintro r wn ⟨rfl, e⟩; replace e := e.symm; subst e))
                        refine hK.out _ _ ?_ (fun hH2 => ?_)
                        · (try dsimp only); (first | (go_split_ands; exact ⟨s0, s1, s2⟩) | (go_split_ands; exact ⟨(cell_far (by simp only; omega)).trans s0, (cell_far (by simp only; omega)).trans s1, (cell_far (by simp only; omega)).trans s2⟩) | go_keep)
                        clear hK K hHeld; have hHeld := hH2; clear hH2
                        refine wpAnyH_take (i := 12) (oi := ⟨some 87, .build 54 #[(0, .tmp 80), (1, .tmp 84), (2, .tmp 86)], 54, "l21_language.go:267", #[⟨5, .data⟩, ⟨9, .data⟩, ⟨11, .data⟩], none⟩) (v := ?_) rfl (by kernel_rfl) (by kernel_rfl) (by kernel_rfl) (fun _ _ _ h => h) (Or.inl ⟨by rfl, ?_⟩) (by assumption) ?_
                        rotate_left
                        · intro w hSw; (try dsimp only at hSw); go_split_ands; go_simp; first | done | with_reducible rfl
                        (try simp only [Act.put, List.setIfInBounds_toArray, List.set_cons_zero, List.set_cons_succ])
                        refine wpAnyH_ready (rs := [1, 13]) (by kernel_rfl) (by simp) ?_
                        refine AllReadyH.cons rfl (fun K hK => ?_) ?_
                        · skip
                          go_simp
                          refine hK.out _ _ ?_ (fun hH2 => ?_)
                          · (try dsimp only); (first | (go_split_ands; exact ⟨s0, s1, s2⟩) | (go_split_ands; exact ⟨(cell_far (by simp only; omega)).trans s0, (cell_far (by simp only; omega)).trans s1, (cell_far (by simp only; omega)).trans s2⟩) | go_keep)
                          clear hK K hHeld; have hHeld := hH2; clear hH2
                          refine wpAnyH_ready (rs := [13]) (by kernel_rfl) (by simp) ?_
                          refine AllReadyH.cons rfl (fun K hK => ?_) ?_
                          · skip
                            go_simp
                            refine hK.out _ _ ?_ (fun hH2 => ?_)
                            · (try dsimp only); (first | (go_split_ands; exact ⟨s0, s1, s2⟩) | (go_split_ands; exact ⟨(cell_far (by simp only; omega)).trans s0, (cell_far (by simp only; omega)).trans s1, (cell_far (by simp only; omega)).trans s2⟩) | go_keep)
                            clear hK K hHeld; have hHeld := hH2; clear hH2
                            refine wpAnyH_ready (rs := [14]) (by kernel_rfl) (by simp) ?_
                            refine AllReadyH.cons rfl (fun K hK => ?_) ?_
                            · skip
                              refine step_append_lies _ (by rfl) _ _ _ (by rfl) w1.heap.size 54 j0 _ 3 40 Try.underlying27 hj hy0 hy1 hy2 rfl (by omega) (.slice B3 m3 e3) m3 (((x.wy.take k).map (renW z t)).flatMap encWay) (by rfl) ((ow_drew hr).alloc _) ⟨Wa.heap.size, 0, none⟩ 1 1 [.string u, .string v, .int .i64 m] (by rfl) (by rfl) (World.news_of_block (cs := #[.string u, .string v, .int .i64 m]) (t := 54) (fr := (0, 0)) (heap_alloc_new Wa.drew _)) (by simp [Value.oneCell']) (by omega) (by simp only [maxLen]; omega) (by omega) (by simp; omega) (Wa.heap.size + 1) (by simp) ?_; intro gg cap w5 ho3 hg3 hat3 hlt3; have hgg := (gr_alloc (gr_drew (World.grownBy.refl Wa _))).trans hg3; have f3 := (hgg.frozen_far ⟨w1.heap.size, 2, none⟩ lg (fun e => q9 e.symm)).trans fz; have k3 : ∃ v, w5.cell? ⟨w1.heap.size, 2, none⟩ = some v := ⟨_, hgg.cell g0 (fun e => q9 e.symm)⟩; obtain ⟨v3, k3⟩ := k3; have s0 := hgg.cell y0 (fun e => ny e.symm); have s1 := hgg.cell y1 (fun e => ny e.symm); have s2 := hgg.cell y2 (fun e => ny e.symm)
                              refine hK.out _ _ ?_ (fun hH2 => ?_)
                              · (try dsimp only); (first | (go_split_ands; exact ⟨s0, s1, s2⟩) | (go_split_ands; exact ⟨(cell_far (by simp only; omega)).trans s0, (cell_far (by simp only; omega)).trans s1, (cell_far (by simp only; omega)).trans s2⟩) | go_keep)
                              clear hK K hHeld; have hHeld := hH2; clear hH2
                              refine wpAnyH_take (i := 15) (oi := ⟨some 90, .fieldAddr 29 (.tmp 10) 2, 0, "l21_language.go:267", #[⟨0, .phase⟩, ⟨1, .phase⟩, ⟨2, .phase⟩, ⟨3, .phase⟩, ⟨4, .phase⟩, ⟨5, .phase⟩, ⟨6, .phase⟩, ⟨7, .phase⟩, ⟨8, .phase⟩, ⟨9, .phase⟩, ⟨10, .phase⟩, ⟨11, .phase⟩, ⟨12, .phase⟩, ⟨13, .phase⟩, ⟨14, .phase⟩], none⟩) (v := ?_) rfl (by kernel_rfl) (by kernel_rfl) (by kernel_rfl) (fun _ _ _ h => h) (Or.inl ⟨by rfl, ?_⟩) (by assumption) ?_
                              rotate_left
                              · intro w hSw; (try dsimp only at hSw); go_split_ands; go_simp; first | done | with_reducible rfl
                              (try simp only [Act.put, List.setIfInBounds_toArray, List.set_cons_zero, List.set_cons_succ])
                              refine wpAnyH_ready (rs := [16]) (by kernel_rfl) (by simp) ?_
                              refine AllReadyH.cons rfl (fun K hK => ?_) ?_
                              · skip
                                go_simp
                                refine hK.out _ _ ?_ (fun hH2 => ?_)
                                · (try dsimp only); (first | (go_split_ands; exact ⟨s0, s1, s2⟩) | (go_split_ands; exact ⟨(cell_far (by simp only; omega)).trans s0, (cell_far (by simp only; omega)).trans s1, (cell_far (by simp only; omega)).trans s2⟩) | go_keep)
                                clear hK K hHeld; have hHeld := hH2; clear hH2
                                refine wpAnyH_done (by kernel_rfl) ?_ _
                                have HX6 := HXo.out.put3 (z := ⟨u, v, m⟩) (H := Wa.heap.size + 1) hgg (by omega) hat3 (by simpa [encWay] using ho3)
                                have HX7 : Hid (XAt (w5.setCell ⟨w1.heap.size, 2, none⟩ (.slice (some ⟨gg, 0, none⟩) (m3 + 1) cap)) w1.heap.size w1.heap.size ⟨B1, m1, e1, B2, m2, e2, some ⟨gg, 0, none⟩, m3 + 1, cap⟩ ⟨x.st.map (renS z t), x.rm.map (renS z t), (x.wy.take (k + 1)).map (renW z t)⟩) := by rw [Hid, SN.out]; exact HX6
                                have hb6 : Below w1.heap.size w1 (w5.setCell ⟨w1.heap.size, 2, none⟩ (.slice (some ⟨gg, 0, none⟩) (m3 + 1) cap)) := bl_set (by simp only; omega) ((hba.drew.alloc (by simp; omega) _).grown hg3 (by simp; omega) (fun b hb => (hlr.out b hb).1))
                                have hs6 : W3.heap.size ≤ (w5.setCell ⟨w1.heap.size, 2, none⟩ (.slice (some ⟨gg, 0, none⟩) (m3 + 1) cap)).heap.size := by have := hgg.size; simp; omega
                                clear HX6 ho3 hgg hg3
                                go_wp2_with fail
                                go_roundw
                                all_goals first | exact ⟨k + 1, _, by omega, by go_num, HX7, hb6, hs6⟩ | exact ⟨⟨k + 1, _, by omega, by go_num, HX7, hb6, hs6⟩, by simp [intOf]; omega⟩ | (simp [intOf]; omega)
                              exact AllReadyH.nil
                            exact AllReadyH.nil
                          exact AllReadyH.nil
                        refine AllReadyH.cons rfl (fun K hK => ?_) ?_
                        · skip
                          go_simp
                          refine hK.out _ _ ?_ (fun hH2 => ?_)
                          · (try dsimp only); (first | (go_split_ands; exact ⟨s0, s1, s2⟩) | (go_split_ands; exact ⟨(cell_far (by simp only; omega)).trans s0, (cell_far (by simp only; omega)).trans s1, (cell_far (by simp only; omega)).trans s2⟩) | go_keep)
                          clear hK K hHeld; have hHeld := hH2; clear hH2
                          refine wpAnyH_ready (rs := [1]) (by kernel_rfl) (by simp) ?_
                          refine AllReadyH.cons rfl (fun K hK => ?_) ?_
                          · skip
                            go_simp
                            refine hK.out _ _ ?_ (fun hH2 => ?_)
                            · (try dsimp only); (first | (go_split_ands; exact ⟨s0, s1, s2⟩) | (go_split_ands; exact ⟨(cell_far (by simp only; omega)).trans s0, (cell_far (by simp only; omega)).trans s1, (cell_far (by simp only; omega)).trans s2⟩) | go_keep)
                            clear hK K hHeld; have hHeld := hH2; clear hH2
                            refine wpAnyH_ready (rs := [14]) (by kernel_rfl) (by simp) ?_
                            refine AllReadyH.cons rfl (fun K hK => ?_) ?_
                            · skip
                              refine step_append_lies _ (by rfl) _ _ _ (by rfl) w1.heap.size 54 j0 _ 3 40 Try.underlying27 hj hy0 hy1 hy2 rfl (by omega) (.slice B3 m3 e3) m3 (((x.wy.take k).map (renW z t)).flatMap encWay) (by rfl) ((ow_drew hr).alloc _) ⟨Wa.heap.size, 0, none⟩ 1 1 [.string u, .string v, .int .i64 m] (by rfl) (by rfl) (World.news_of_block (cs := #[.string u, .string v, .int .i64 m]) (t := 54) (fr := (0, 0)) (heap_alloc_new Wa.drew _)) (by simp [Value.oneCell']) (by omega) (by simp only [maxLen]; omega) (by omega) (by simp; omega) (Wa.heap.size + 1) (by simp) ?_; intro gg cap w5 ho3 hg3 hat3 hlt3; have hgg := (gr_alloc (gr_drew (World.grownBy.refl Wa _))).trans hg3; have f3 := (hgg.frozen_far ⟨w1.heap.size, 2, none⟩ lg (fun e => q9 e.symm)).trans fz; have k3 : ∃ v, w5.cell? ⟨w1.heap.size, 2, none⟩ = some v := ⟨_, hgg.cell g0 (fun e => q9 e.symm)⟩; obtain ⟨v3, k3⟩ := k3; have s0 := hgg.cell y0 (fun e => ny e.symm); have s1 := hgg.cell y1 (fun e => ny e.symm); have s2 := hgg.cell y2 (fun e => ny e.symm)
                              refine hK.out _ _ ?_ (fun hH2 => ?_)
                              · (try dsimp only); (first | (go_split_ands; exact ⟨s0, s1, s2⟩) | (go_split_ands; exact ⟨(cell_far (by simp only; omega)).trans s0, (cell_far (by simp only; omega)).trans s1, (cell_far (by simp only; omega)).trans s2⟩) | go_keep)
                              clear hK K hHeld; have hHeld := hH2; clear hH2
                              refine wpAnyH_take (i := 15) (oi := ⟨some 90, .fieldAddr 29 (.tmp 10) 2, 0, "l21_language.go:267", #[⟨0, .phase⟩, ⟨1, .phase⟩, ⟨2, .phase⟩, ⟨3, .phase⟩, ⟨4, .phase⟩, ⟨5, .phase⟩, ⟨6, .phase⟩, ⟨7, .phase⟩, ⟨8, .phase⟩, ⟨9, .phase⟩, ⟨10, .phase⟩, ⟨11, .phase⟩, ⟨12, .phase⟩, ⟨13, .phase⟩, ⟨14, .phase⟩], none⟩) (v := ?_) rfl (by kernel_rfl) (by kernel_rfl) (by kernel_rfl) (fun _ _ _ h => h) (Or.inl ⟨by rfl, ?_⟩) (by assumption) ?_
                              rotate_left
                              · intro w hSw; (try dsimp only at hSw); go_split_ands; go_simp; first | done | with_reducible rfl
                              (try simp only [Act.put, List.setIfInBounds_toArray, List.set_cons_zero, List.set_cons_succ])
                              refine wpAnyH_ready (rs := [16]) (by kernel_rfl) (by simp) ?_
                              refine AllReadyH.cons rfl (fun K hK => ?_) ?_
                              · skip
                                go_simp
                                refine hK.out _ _ ?_ (fun hH2 => ?_)
                                · (try dsimp only); (first | (go_split_ands; exact ⟨s0, s1, s2⟩) | (go_split_ands; exact ⟨(cell_far (by simp only; omega)).trans s0, (cell_far (by simp only; omega)).trans s1, (cell_far (by simp only; omega)).trans s2⟩) | go_keep)
                                clear hK K hHeld; have hHeld := hH2; clear hH2
                                refine wpAnyH_done (by kernel_rfl) ?_ _
                                have HX6 := HXo.out.put3 (z := ⟨u, v, m⟩) (H := Wa.heap.size + 1) hgg (by omega) hat3 (by simpa [encWay] using ho3)
                                have HX7 : Hid (XAt (w5.setCell ⟨w1.heap.size, 2, none⟩ (.slice (some ⟨gg, 0, none⟩) (m3 + 1) cap)) w1.heap.size w1.heap.size ⟨B1, m1, e1, B2, m2, e2, some ⟨gg, 0, none⟩, m3 + 1, cap⟩ ⟨x.st.map (renS z t), x.rm.map (renS z t), (x.wy.take (k + 1)).map (renW z t)⟩) := by rw [Hid, SN.out]; exact HX6
                                have hb6 : Below w1.heap.size w1 (w5.setCell ⟨w1.heap.size, 2, none⟩ (.slice (some ⟨gg, 0, none⟩) (m3 + 1) cap)) := bl_set (by simp only; omega) ((hba.drew.alloc (by simp; omega) _).grown hg3 (by simp; omega) (fun b hb => (hlr.out b hb).1))
                                have hs6 : W3.heap.size ≤ (w5.setCell ⟨w1.heap.size, 2, none⟩ (.slice (some ⟨gg, 0, none⟩) (m3 + 1) cap)).heap.size := by have := hgg.size; simp; omega
                                clear HX6 ho3 hgg hg3
                                go_wp2_with fail
                                go_roundw
                                all_goals first | exact ⟨k + 1, _, by omega, by go_num, HX7, hb6, hs6⟩ | exact ⟨⟨k + 1, _, by omega, by go_num, HX7, hb6, hs6⟩, by simp [intOf]; omega⟩ | (simp [intOf]; omega)
                              exact AllReadyH.nil
                            exact AllReadyH.nil
                          exact AllReadyH.nil
                        exact AllReadyH.nil
                      exact AllReadyH.nil
                    exact AllReadyH.nil
                  · have hkn : k = n3 := by omega
                    subst hkn
                    have hX2 := hX.out
                    rw [List.take_of_length_le (by rw [L3.out]; exact Nat.le_refl _)] at hX2
                    have X3 := hid hX2
                    clear hX hX2
                    obtain ⟨B1, m1, e1, B2, m2, e2, B3, m3, e3⟩ := s2
                    have g0 := X3.out.k0
                    have g1 := X3.out.k1
                    have g2 := X3.out.k2
                    simp only at g0 g1 g2
                    have hbw := b2.trans (hb.mono b2.size)
                    have p10 := below_cell d0 hb
                    have r0 : wr.frozen? ⟨w.heap.size + 1 + 1 + 1, 0, none⟩ = false := below_frz d0 f0 hb
                    have p11 := below_cell d1 hb
                    have r1 : wr.frozen? ⟨w.heap.size + 1 + 1 + 1, 1, none⟩ = false := below_frz d1 f1 hb
                    have p12 := below_cell d2 hb
                    have r2 : wr.frozen? ⟨w.heap.size + 1 + 1 + 1, 2, none⟩ = false := below_frz d2 f2 hb
                    clear x3
                    go_wp2_with fail
                    have t0 := set3_0 p10 (.slice B1 m1 e1) (.slice B2 m2 e2) (.slice B3 m3 e3)
                    have t1 := set3_1 p11 (.slice B1 m1 e1) (.slice B2 m2 e2) (.slice B3 m3 e3)
                    have t2 := set3_2 p12 (.slice B1 m1 e1) (.slice B2 m2 e2) (.slice B3 m3 e3)
                    rw [EF.out]
                    have hO := X3.out.own
                    refine bodyPost_ret (v := .tuple #[.agg #[.slice B1 m1 e1, .slice B2 m2 e2, .slice B3 m3 e3], .int .i64 0]) (by simp [results, Try.results8, go_sem, t0, t1, t2]) rfl ⟨⟨B1, m1, e1, B2, m2, e2, B3, m3, e3⟩, rfl, ⟨?_, ?_, ?_, hO.ap12, hO.ap13, hO.ap23⟩, bl_set3 (by omega) hbw⟩
                    · exact ow_set3 (fun e => by have := (hO.st.lt _ e).1; omega) (hO.st.mono (by omega))
                    · exact ow_set3 (fun e => by have := (hO.rm.lt _ e).1; omega) (hO.rm.mono (by omega))
                    · exact ow_set3 (fun e => by have := (hO.wy.lt _ e).1; omega) (hO.wy.mono (by omega))
  · have q1 : (q == 0) = false := by simpa using hv
    have q2 : (q != 0) = true := by simpa using hv
    rw [if_neg hv] at EF
    clear hcz eg1 cN cH x1 x2 x3 L1 L2 L3
    go_enter Try.func8, Try.ntmps8
    go_wp2_with fail
    rw [← HW.out]
    refine hc.mono ?_
    rintro r w1 ⟨rfl, b1⟩
    clear hc
    replace k0 := below_cell k0 b1
    replace k1 := below_cell k1 b1
    replace k2 := below_cell k2 b1
    replace kz := below_cell kz b1
    replace kt := below_cell kt b1
    have g0 := below_frz d0 f0 b1
    have g1 := below_frz d1 f1 b1
    have g2 := below_frz d2 f2 b1
    replace d0 := below_cell d0 b1
    replace d1 := below_cell d1 b1
    replace d2 := below_cell d2 b1
    clear f0 f1 f2
    go_wp2_with fail
    have p10 := set3_0 d0 (.slice none 0 0) (.slice none 0 0) (.slice none 0 0)
    have p11 := set3_1 d1 (.slice none 0 0) (.slice none 0 0) (.slice none 0 0)
    have p12 := set3_2 d2 (.slice none 0 0) (.slice none 0 0) (.slice none 0 0)
    rw [EF.out]
    refine bodyPost_ret (v := .tuple #[.agg #[.slice none 0 0, .slice none 0 0, .slice none 0 0], .int .i64 q]) (by simp [results, Try.results8, go_sem, p10, p11, p12]) rfl ⟨⟨none, 0, 0, none, 0, 0, none, 0, 0⟩, by simp [SV.v, *], ⟨by simpa [*] using World.ownsRow_nil _ _ _ _, by simpa [*] using World.ownsRow_nil _ _ _ _, by simpa [*] using World.ownsRow_nil _ _ _ _, fun b h => by simp [Value.ownBlock] at h, fun b h => by simp [Value.ownBlock] at h, fun b h => by simp [Value.ownBlock] at h⟩, bl_set3 (by omega) (b0.trans (b1.mono b0.size))⟩
end Go.Proofs.Ytmanbpobdaamfaa
