/-
  LonelyStations, DeadEnds: the reference's side. No condition.
-/
import Derived.Test.YtmanbpobdaamfaaSBy
namespace Go.Proofs.Ytmanbpobdaamfaa
open Go.RowKit
set_option maxHeartbeats 400000

def cntB (p : Way → Bool) (ws : List Way) : Nat := ws.countP p
theorem cntB_take {p : Way → Bool} {ws : List Way} {k : Nat} {y : Way} (h : ws[k]? = some y) : cntB p (ws.take (k + 1)) = if p y then cntB p (ws.take k) + 1 else cntB p (ws.take k) := by
  rw [take_at h, cntB, List.countP_append]
  cases hp : p y <;> simp [hp, cntB]
theorem cntB_le (p : Way → Bool) (ws : List Way) : cntB p ws ≤ ws.length := List.countP_le_length
theorem cntB_any (p : Way → Bool) (ws : List Way) : ws.any p = decide (0 < cntB p ws) := by
  rw [Bool.eq_iff_iff]
  simp only [List.any_eq_true, decide_eq_true_eq, cntB, List.countP_pos_iff]
set_option maxHeartbeats 2000000 in
theorem l21Count_any (gx : Nat) (A : Option Addr) (n c : Nat) (ws : List Way) (z : ByteArray) (w : World) (B : Nat) (hn : n ≤ 2000000) (hx : Sl w B 3 encWay A n ws) (k2 : w.cell? ⟨gx, 2, none⟩ = some (.slice A n c)) :
    Calls Try.prog 63 #[.pointer (some ⟨gx, 0, none⟩), .string z] w fun r w' => r = .returned (.tuple #[.int .i64 (cntB (fun y => decide (y.fr = z)) ws), .int .i64 (cntB (fun y => decide (y.to = z)) ws)]) ∧ w' = w := by
  have Ln := hid hx.len
  go_enter Try.func63, Try.ntmps63
  go_wp2
  go_loop [6, 7, 8] (fun a b i => ∃ k u v : Nat, k ≤ n ∧ u ≤ k ∧ v ≤ k ∧ a = .int .i64 u ∧ b = .int .i64 v ∧ i = .int .i64 k ∧ Hid (u = cntB (fun y => decide (y.fr = z)) (ws.take k)) ∧ Hid (v = cntB (fun y => decide (y.to = z)) (ws.take k))) (fun _ _ i => n - (intOf i).toNat)
  case atStart => exact ⟨0, 0, 0, Nat.zero_le _, Nat.zero_le _, Nat.zero_le _, rfl, rfl, rfl, hid rfl, hid rfl⟩
  case round =>
    obtain ⟨k, u, v, hk, hu, hv, rfl, rfl, rfl, eu, ev⟩ := hrel
    by_cases hlt : k < n
    · obtain ⟨f, t, m, b, off, Hy, rfl, hbB, d0, d1, d2⟩ := hx.atWay hlt
      have h1' : cntB (fun y => decide (y.fr = z)) (ws.take (k + 1)) = if decide (f = z) then u + 1 else u := by rw [cntB_take Hy.out, ← eu.out]
      have h2' : cntB (fun y => decide (y.to = z)) (ws.take (k + 1)) = if decide (t = z) then v + 1 else v := by rw [cntB_take Hy.out, ← ev.out]
      have H1 := hid h1'
      have H2 := hid h2'
      have q1 := bs_eq (x := f) (y := z)
      have q2 := bs_eq (x := t) (y := z)
      generalize decide (f = z) = p1 at q1 H1
      generalize decide (t = z) = p2 at q2 H2
      have i0 : (0 : Int) ≤ (k : Int) := by omega
      have i1 : (k : Int) < (n : Int) := by omega
      clear hx h1' h2' eu ev
      cases p1 <;> cases p2
      all_goals go_wp2
      all_goals go_round
      case rel => exact ⟨k + 1, u, v, by omega, by omega, by omega, rfl, rfl, by go_num, H1.out.symm, H2.out.symm⟩
      case measure => simp [intOf]; omega
      case rel => exact ⟨k + 1, u, v + 1, by omega, by omega, by omega, rfl, by go_num, by go_num, H1.out.symm, H2.out.symm⟩
      case measure => simp [intOf]; omega
      case rel => exact ⟨k + 1, u + 1, v, by omega, by omega, by omega, by go_num, rfl, by go_num, H1.out.symm, H2.out.symm⟩
      case measure => simp [intOf]; omega
      case rel => exact ⟨k + 1, u + 1, v + 1, by omega, by omega, by omega, by go_num, by go_num, by go_num, H1.out.symm, H2.out.symm⟩
      case measure => simp [intOf]; omega
    · have : k = n := by omega
      subst this
      have E1 : Hid (cntB (fun y => decide (y.fr = z)) ws = u) := by rw [Hid, eu.out, List.take_of_length_le (by rw [Ln.out]; exact Nat.le_refl _)]
      have E2 : Hid (cntB (fun y => decide (y.to = z)) ws = v) := by rw [Hid, ev.out, List.take_of_length_le (by rw [Ln.out]; exact Nat.le_refl _)]
      clear hx eu ev
      go_wp2
      go_ret2
      rw [E1.out, E2.out]
      exact ⟨rfl, rfl⟩
theorem snocS (xs : List ByteArray) (z : ByteArray) : xs.flatMap encS ++ [.string z] = (xs ++ [z]).flatMap encS := by simp [encS]
set_option maxHeartbeats 4000000 in
set_option maxRecDepth 100000 in
theorem specLonelyStations_any (s : SV) (x : Sch) (w : World) (B : Nat) (hB : B ≤ w.heap.size) (hn : s.n1 ≤ 2000000 ∧ s.n2 ≤ 2000000 ∧ s.n3 ≤ 2000000) (hx : SlX w B s x) (hz : Hid (BigX x)) :
    Calls Try.prog 21 #[s.v] w (SPost w (lonelyF x)) := by
  obtain ⟨A1, n1, c1, A2, n2, c2, A3, n3, c3⟩ := s
  simp only [SV.v] at hn ⊢
  obtain ⟨W0, hW0⟩ : ∃ W0, W0 = w.alloc (.cells #[.slice A1 n1 c1, .slice A2 n2 c2, .slice A3 n3 c3] 29) := ⟨_, rfl⟩
  have b0 : Below w.heap.size w W0 := by rw [hW0]; exact (Below.refl _ _).alloc (Nat.le_refl _) _
  have k0 : W0.cell? ⟨w.heap.size, 0, none⟩ = some (.slice A1 n1 c1) := by rw [hW0]; go_simp
  have k1 : W0.cell? ⟨w.heap.size, 1, none⟩ = some (.slice A2 n2 c2) := by rw [hW0]; go_simp
  have k2 : W0.cell? ⟨w.heap.size, 2, none⟩ = some (.slice A3 n3 c3) := by rw [hW0]; go_simp
  have hx0 := hx.below (b0.mono hB)
  have hc := l21Ok_any w.heap.size ⟨A1, n1, c1, A2, n2, c2, A3, n3, c3⟩ x W0 B (Nat.le_trans hB b0.size) hn hx0 hz k0 k1 k2
  have L1 := hid hx0.st.len
  have L3 := hid hx0.wy.len
  obtain ⟨hn1, hn2, hn3⟩ := hn
  have HW := hid hW0
  clear hW0 hx
  by_cases hv : validX x = true
  · have EF : Hid (lonelyF x = (stay (strB x.wy false false) x.st, 0)) := by rw [Hid, lonelyF, byF, if_pos hv]
    have h20 : n1 ≤ 20 := by have := validX_stl hv; have := L1.out; simp only at this; omega
    have h60 : n3 ≤ 60 := by have := validX_wyl hv; have := L3.out; simp only at this; omega
    rw [hv] at hc
    have hs1 := hx0.st
    have hs3 := hx0.wy
    simp only at hs1 hs3
    obtain ⟨i0, hi, hz0, hz1, hz2⟩ := info_parts str_info
    clear hx0 hz hv
    go_enter Try.func21, Try.ntmps21
    go_wp2_with fail
    rw [← HW.out]
    refine hc.mono ?_
    rintro r w1 ⟨rfl, b1⟩
    clear hc
    have z1 := b1.size
    have z0 := b0.size
    have lb := World.block_lt_of_cell? _ _ k2
    simp only at lb
    have lb1 : w.heap.size < w1.heap.size := by omega
    replace k0 := below_cell k0 b1
    replace k2 := below_cell k2 b1
    replace hs1 := hs1.below (b1.mono (Nat.le_trans hB b0.size))
    replace hs3 := hs3.below (b1.mono (Nat.le_trans hB b0.size))
    have b2 := b0.trans (b1.mono b0.size)
    clear k1 b0 b1
    have o0 := World.ownsRow_lit (base := w1.heap.size) (e := 9) (size := 1) w1 #[] 0 (Nat.le_refl _) (by simp [maxLen]) (by simp)
    go_wp2_with fail
    go_loopw [4, 5, 6, 7] (fun o i _ _ wl => ∃ (k L : Nat) (Ao : Option Addr) (co : Nat), k ≤ n1 ∧ L ≤ k ∧ o = .slice Ao L co ∧ i = .int .i64 k ∧ Hid (wl.ownsRow w1.heap.size 9 1 (.slice Ao L co) L ((stay (strB x.wy false false) (x.st.take k)).flatMap encS)) ∧ Below w1.heap.size w1 wl) (fun _ i _ _ _ => n1 - (intOf i).toNat)
    case atStart => exact ⟨0, 0, _, _, Nat.zero_le _, Nat.zero_le _, rfl, rfl, o0, (Below.refl _ _).alloc (Nat.le_refl _) _⟩
    case round =>
      obtain ⟨k, L, Ao, co, hk, hL, rfl, rfl, ho, hb⟩ := hrel
      clear o0
      have kk0 := below_cell k0 hb
      have kk2 := below_cell k2 hb
      have zb := hb.size
      have bw := b2.trans (hb.mono (by omega))
      by_cases hlt : k < n1
      · obtain ⟨z, b, off, Hz, rfl, hbb, l0⟩ := (hs1.below (hb.mono (by omega))).str hlt
        have hcn := l21Count_any w.heap.size A3 n3 c3 x.wy z wr B (by omega) (hs3.below (hb.mono (by omega))) kk2
        have S := hid (stay_snoc (p := strB x.wy false false) Hz.out)
        have hi0 : (0 : Int) ≤ (k : Int) := by omega
        have hi1 : (k : Int) < (n1 : Int) := by omega
        have lbr : b < wr.heap.size := by omega
        have lgr : w.heap.size < wr.heap.size := by omega
        have hq : Hid (strB x.wy false false z = ((decide (0 < cntB (fun y => decide (y.fr = z)) x.wy)) != false || (decide (0 < cntB (fun y => decide (y.to = z)) x.wy)) != false)) := by
          rw [Hid, strB, leadsB, comesB, cntB_any, cntB_any]
        have u1 : cntB (fun y => decide (y.fr = z)) x.wy ≤ 60 := Nat.le_trans (cntB_le _ _) (by have := L3.out; omega)
        have u2 : cntB (fun y => decide (y.to = z)) x.wy ≤ 60 := Nat.le_trans (cntB_le _ _) (by have := L3.out; omega)
        generalize cntB (fun y => decide (y.fr = z)) x.wy = p1 at hcn hq u1
        generalize cntB (fun y => decide (y.to = z)) x.wy = p2 at hcn hq u2
        have ho5 := ho.out
        have hlo := hid ho5.lt
        cases hst : strB x.wy false false z with
        | true =>
          have HY := S.out
          rw [hst, if_pos rfl] at HY
          rw [← HY] at ho
          have hcase : 0 < p1 ∨ (p1 = 0 ∧ (0 < p2) = (false = false)) := by
            have := hq.out
            rw [hst] at this
            rcases Nat.eq_zero_or_pos p1 with h1 | h1
            · subst h1
              right
              rcases Nat.eq_zero_or_pos p2 with h2 | h2
              · subst h2; simp at this ⊢
              · have h3 : decide (0 < p2) = true := by simpa using h2
                rw [h3] at this
                simp at this ⊢
                try exact h2
            · exact .inl h1
          clear hs1 hs3 S hst HY hq ho5
          simp at hcase
          rcases hcase with h1 | h1
          · have h3 : ((p1 : Int) + (p2 : Int) == 0) = false := by simp; omega
            have h4 : ((p1 : Int) == 0) = false := by simp; omega
            go_wp2_with (go_at_call 63; refine hcn.mono ?_; rintro r w5 ⟨rfl, e⟩; replace e := e.symm; subst e)
            go_roundw
            all_goals first | exact ⟨k + 1, L, _, _, by omega, by omega, rfl, by go_num, ho, hb⟩ | exact ⟨⟨k + 1, L, _, _, by omega, by omega, rfl, by go_num, ho, hb⟩, by simp [intOf]; omega⟩ | (simp [intOf]; omega)
          · obtain ⟨rfl, h2⟩ := h1
            have h3 : ((0 : Int) + (p2 : Int) == 0) = false := by simp; omega
            have h5 : ((p2 : Int) == 0) = false := by simp; omega
            have h4 : decide ((0 : Int) < (p2 : Int)) = !false := by simp; omega
            go_wp2_with (go_at_call 63; refine hcn.mono ?_; rintro r w5 ⟨rfl, e⟩; replace e := e.symm; subst e)
            go_roundw
            all_goals first | exact ⟨k + 1, L, _, _, by omega, by omega, rfl, by go_num, ho, hb⟩ | exact ⟨⟨k + 1, L, _, _, by omega, by omega, rfl, by go_num, ho, hb⟩, by simp [intOf]; omega⟩ | (simp [intOf]; omega)
        | false =>
          have HY := S.out
          rw [hst, if_neg (by simp)] at HY
          have HY2 := hid HY
          have hcase : p1 = 0 ∧ decide (0 < p2) = false := by
            have := hq.out
            rw [hst] at this
            have h2 := this.symm
            simp only [Bool.or_eq_false_iff] at h2
            obtain ⟨h2, h3⟩ := h2
            exact ⟨by simpa using h2, by simpa using h3⟩
          obtain ⟨rfl, h2⟩ := hcase
          simp at h2
          have h4 : decide ((0 : Int) < (p2 : Int)) = false := by simp; omega
          have h5 : ((p2 : Int) == 0) = !false := by simp; omega
          clear hs1 hs3 S hst HY hq ho
          go_wp2_with (first
            | (go_at_call 63; refine hcn.mono ?_; rintro r w5 ⟨rfl, e⟩; replace e := e.symm; subst e)
            | (at_builtin; refine wpList_append_lies _ rfl _ _ 22 rfl w1.heap.size 9 i0 (.string ByteArray.empty) 1 16 Try.underlying22 hi hz0 hz1 hz2 rfl (by omega) (.slice Ao L co) L ((stay (strB x.wy false false) (x.st.take k)).flatMap encS) rfl (ho5.alloc _) ⟨wr.heap.size, 0, none⟩ 1 1 [.string z] rfl rfl (World.news_of_block (cs := #[.string z]) (t := 9) (fr := (0, 0)) (heap_alloc_new _ _)) (by simp [Value.oneCell']) (by omega) (by simp only [maxLen]; omega) (by omega) (by simp; omega) (wr.heap.size + 1) (by simp) ?_; intro gg cap w3 ho3 hg3 hat3 hlt3))
          rw [snocS, ← HY2.out] at ho3
          have hb3 : Below w1.heap.size w1 w3 := (hb.alloc hb.size _).grown hg3 (by simp; omega) (fun q hq => (hlo.out q hq).1)
          go_roundw
          all_goals first | exact ⟨k + 1, L + 1, _, _, by omega, by omega, rfl, by go_num, ho3, hb3⟩ | exact ⟨⟨k + 1, L + 1, _, _, by omega, by omega, rfl, by go_num, ho3, hb3⟩, by simp [intOf]; omega⟩ | (simp [intOf]; omega)
      · have hkn : k = n1 := by omega
        subst hkn
        have ho5 := ho.out.mono (show w.heap.size ≤ w1.heap.size by omega)
        rw [List.take_of_length_le (by rw [L1.out]; exact Nat.le_refl _)] at ho5
        have HO := hid ho5
        clear hs1 hs3 ho ho5
        go_wp2_with fail
        go_ret2
        rw [EF.out]
        exact ⟨_, _, _, rfl, HO.out, bw⟩
  · have EF : Hid (lonelyF x = ([], 1)) := by rw [Hid, lonelyF, byF, if_neg hv]
    have hv2 : validX x = false := by simpa using hv
    rw [hv2] at hc
    clear hx0 hz hv hv2 k0 k1 k2
    go_enter Try.func21, Try.ntmps21
    go_wp2_with fail
    rw [← HW.out]
    refine hc.mono ?_
    rintro r w1 ⟨rfl, b1⟩
    go_wp2_with fail
    go_ret2
    exact SPost.bad EF.out (b0.trans (b1.mono b0.size))
set_option maxHeartbeats 4000000 in
set_option maxRecDepth 100000 in
theorem specDeadEnds_any (s : SV) (x : Sch) (w : World) (B : Nat) (hB : B ≤ w.heap.size) (hn : s.n1 ≤ 2000000 ∧ s.n2 ≤ 2000000 ∧ s.n3 ≤ 2000000) (hx : SlX w B s x) (hz : Hid (BigX x)) :
    Calls Try.prog 23 #[s.v] w (SPost w (deadF x)) := by
  obtain ⟨A1, n1, c1, A2, n2, c2, A3, n3, c3⟩ := s
  simp only [SV.v] at hn ⊢
  obtain ⟨W0, hW0⟩ : ∃ W0, W0 = w.alloc (.cells #[.slice A1 n1 c1, .slice A2 n2 c2, .slice A3 n3 c3] 29) := ⟨_, rfl⟩
  have b0 : Below w.heap.size w W0 := by rw [hW0]; exact (Below.refl _ _).alloc (Nat.le_refl _) _
  have k0 : W0.cell? ⟨w.heap.size, 0, none⟩ = some (.slice A1 n1 c1) := by rw [hW0]; go_simp
  have k1 : W0.cell? ⟨w.heap.size, 1, none⟩ = some (.slice A2 n2 c2) := by rw [hW0]; go_simp
  have k2 : W0.cell? ⟨w.heap.size, 2, none⟩ = some (.slice A3 n3 c3) := by rw [hW0]; go_simp
  have hx0 := hx.below (b0.mono hB)
  have hc := l21Ok_any w.heap.size ⟨A1, n1, c1, A2, n2, c2, A3, n3, c3⟩ x W0 B (Nat.le_trans hB b0.size) hn hx0 hz k0 k1 k2
  have L1 := hid hx0.st.len
  have L3 := hid hx0.wy.len
  obtain ⟨hn1, hn2, hn3⟩ := hn
  have HW := hid hW0
  clear hW0 hx
  by_cases hv : validX x = true
  · have EF : Hid (deadF x = (stay (strB x.wy false true) x.st, 0)) := by rw [Hid, deadF, byF, if_pos hv]
    have h20 : n1 ≤ 20 := by have := validX_stl hv; have := L1.out; simp only at this; omega
    have h60 : n3 ≤ 60 := by have := validX_wyl hv; have := L3.out; simp only at this; omega
    rw [hv] at hc
    have hs1 := hx0.st
    have hs3 := hx0.wy
    simp only at hs1 hs3
    obtain ⟨i0, hi, hz0, hz1, hz2⟩ := info_parts str_info
    clear hx0 hz hv
    go_enter Try.func23, Try.ntmps23
    go_wp2_with fail
    rw [← HW.out]
    refine hc.mono ?_
    rintro r w1 ⟨rfl, b1⟩
    clear hc
    have z1 := b1.size
    have z0 := b0.size
    have lb := World.block_lt_of_cell? _ _ k2
    simp only at lb
    have lb1 : w.heap.size < w1.heap.size := by omega
    replace k0 := below_cell k0 b1
    replace k2 := below_cell k2 b1
    replace hs1 := hs1.below (b1.mono (Nat.le_trans hB b0.size))
    replace hs3 := hs3.below (b1.mono (Nat.le_trans hB b0.size))
    have b2 := b0.trans (b1.mono b0.size)
    clear k1 b0 b1
    have o0 := World.ownsRow_lit (base := w1.heap.size) (e := 9) (size := 1) w1 #[] 0 (Nat.le_refl _) (by simp [maxLen]) (by simp)
    go_wp2_with fail
    go_loopw [4, 5, 6, 7] (fun o i _ _ wl => ∃ (k L : Nat) (Ao : Option Addr) (co : Nat), k ≤ n1 ∧ L ≤ k ∧ o = .slice Ao L co ∧ i = .int .i64 k ∧ Hid (wl.ownsRow w1.heap.size 9 1 (.slice Ao L co) L ((stay (strB x.wy false true) (x.st.take k)).flatMap encS)) ∧ Below w1.heap.size w1 wl) (fun _ i _ _ _ => n1 - (intOf i).toNat)
    case atStart => exact ⟨0, 0, _, _, Nat.zero_le _, Nat.zero_le _, rfl, rfl, o0, (Below.refl _ _).alloc (Nat.le_refl _) _⟩
    case round =>
      obtain ⟨k, L, Ao, co, hk, hL, rfl, rfl, ho, hb⟩ := hrel
      clear o0
      have kk0 := below_cell k0 hb
      have kk2 := below_cell k2 hb
      have zb := hb.size
      have bw := b2.trans (hb.mono (by omega))
      by_cases hlt : k < n1
      · obtain ⟨z, b, off, Hz, rfl, hbb, l0⟩ := (hs1.below (hb.mono (by omega))).str hlt
        have hcn := l21Count_any w.heap.size A3 n3 c3 x.wy z wr B (by omega) (hs3.below (hb.mono (by omega))) kk2
        have S := hid (stay_snoc (p := strB x.wy false true) Hz.out)
        have hi0 : (0 : Int) ≤ (k : Int) := by omega
        have hi1 : (k : Int) < (n1 : Int) := by omega
        have lbr : b < wr.heap.size := by omega
        have lgr : w.heap.size < wr.heap.size := by omega
        have hq : Hid (strB x.wy false true z = ((decide (0 < cntB (fun y => decide (y.fr = z)) x.wy)) != false || (decide (0 < cntB (fun y => decide (y.to = z)) x.wy)) != true)) := by
          rw [Hid, strB, leadsB, comesB, cntB_any, cntB_any]
        have u1 : cntB (fun y => decide (y.fr = z)) x.wy ≤ 60 := Nat.le_trans (cntB_le _ _) (by have := L3.out; omega)
        have u2 : cntB (fun y => decide (y.to = z)) x.wy ≤ 60 := Nat.le_trans (cntB_le _ _) (by have := L3.out; omega)
        generalize cntB (fun y => decide (y.fr = z)) x.wy = p1 at hcn hq u1
        generalize cntB (fun y => decide (y.to = z)) x.wy = p2 at hcn hq u2
        have ho5 := ho.out
        have hlo := hid ho5.lt
        cases hst : strB x.wy false true z with
        | true =>
          have HY := S.out
          rw [hst, if_pos rfl] at HY
          rw [← HY] at ho
          have hcase : 0 < p1 ∨ (p1 = 0 ∧ (0 < p2) = (true = false)) := by
            have := hq.out
            rw [hst] at this
            rcases Nat.eq_zero_or_pos p1 with h1 | h1
            · subst h1
              right
              rcases Nat.eq_zero_or_pos p2 with h2 | h2
              · subst h2; simp at this ⊢
              · have h3 : decide (0 < p2) = true := by simpa using h2
                rw [h3] at this
                simp at this ⊢
                try exact h2
            · exact .inl h1
          clear hs1 hs3 S hst HY hq ho5
          simp at hcase
          rcases hcase with h1 | h1
          · have h3 : ((p1 : Int) + (p2 : Int) == 0) = false := by simp; omega
            have h4 : ((p1 : Int) == 0) = false := by simp; omega
            go_wp2_with (go_at_call 63; refine hcn.mono ?_; rintro r w5 ⟨rfl, e⟩; replace e := e.symm; subst e)
            go_roundw
            all_goals first | exact ⟨k + 1, L, _, _, by omega, by omega, rfl, by go_num, ho, hb⟩ | exact ⟨⟨k + 1, L, _, _, by omega, by omega, rfl, by go_num, ho, hb⟩, by simp [intOf]; omega⟩ | (simp [intOf]; omega)
          · obtain ⟨rfl, h2⟩ := h1
            have h3 : ((0 : Int) + (p2 : Int) == 0) = true := by simp; omega
            have h5 : ((p2 : Int) == 0) = true := by simp; omega
            have h4 : decide ((0 : Int) < (p2 : Int)) = !true := by simp; omega
            go_wp2_with (go_at_call 63; refine hcn.mono ?_; rintro r w5 ⟨rfl, e⟩; replace e := e.symm; subst e)
            go_roundw
            all_goals first | exact ⟨k + 1, L, _, _, by omega, by omega, rfl, by go_num, ho, hb⟩ | exact ⟨⟨k + 1, L, _, _, by omega, by omega, rfl, by go_num, ho, hb⟩, by simp [intOf]; omega⟩ | (simp [intOf]; omega)
        | false =>
          have HY := S.out
          rw [hst, if_neg (by simp)] at HY
          have HY2 := hid HY
          have hcase : p1 = 0 ∧ decide (0 < p2) = true := by
            have := hq.out
            rw [hst] at this
            have h2 := this.symm
            simp only [Bool.or_eq_false_iff] at h2
            obtain ⟨h2, h3⟩ := h2
            exact ⟨by simpa using h2, by simpa using h3⟩
          obtain ⟨rfl, h2⟩ := hcase
          simp at h2
          have h4 : decide ((0 : Int) < (p2 : Int)) = true := by simp; omega
          have h5 : ((p2 : Int) == 0) = !true := by simp; omega
          clear hs1 hs3 S hst HY hq ho
          go_wp2_with (first
            | (go_at_call 63; refine hcn.mono ?_; rintro r w5 ⟨rfl, e⟩; replace e := e.symm; subst e)
            | (at_builtin; refine wpList_append_lies _ rfl _ _ 22 rfl w1.heap.size 9 i0 (.string ByteArray.empty) 1 16 Try.underlying22 hi hz0 hz1 hz2 rfl (by omega) (.slice Ao L co) L ((stay (strB x.wy false true) (x.st.take k)).flatMap encS) rfl (ho5.alloc _) ⟨wr.heap.size, 0, none⟩ 1 1 [.string z] rfl rfl (World.news_of_block (cs := #[.string z]) (t := 9) (fr := (0, 0)) (heap_alloc_new _ _)) (by simp [Value.oneCell']) (by omega) (by simp only [maxLen]; omega) (by omega) (by simp; omega) (wr.heap.size + 1) (by simp) ?_; intro gg cap w3 ho3 hg3 hat3 hlt3))
          rw [snocS, ← HY2.out] at ho3
          have hb3 : Below w1.heap.size w1 w3 := (hb.alloc hb.size _).grown hg3 (by simp; omega) (fun q hq => (hlo.out q hq).1)
          go_roundw
          all_goals first | exact ⟨k + 1, L + 1, _, _, by omega, by omega, rfl, by go_num, ho3, hb3⟩ | exact ⟨⟨k + 1, L + 1, _, _, by omega, by omega, rfl, by go_num, ho3, hb3⟩, by simp [intOf]; omega⟩ | (simp [intOf]; omega)
      · have hkn : k = n1 := by omega
        subst hkn
        have ho5 := ho.out.mono (show w.heap.size ≤ w1.heap.size by omega)
        rw [List.take_of_length_le (by rw [L1.out]; exact Nat.le_refl _)] at ho5
        have HO := hid ho5
        clear hs1 hs3 ho ho5
        go_wp2_with fail
        go_ret2
        rw [EF.out]
        exact ⟨_, _, _, rfl, HO.out, bw⟩
  · have EF : Hid (deadF x = ([], 1)) := by rw [Hid, deadF, byF, if_neg hv]
    have hv2 : validX x = false := by simpa using hv
    rw [hv2] at hc
    clear hx0 hz hv hv2 k0 k1 k2
    go_enter Try.func23, Try.ntmps23
    go_wp2_with fail
    rw [← HW.out]
    refine hc.mono ?_
    rintro r w1 ⟨rfl, b1⟩
    go_wp2_with fail
    go_ret2
    exact SPost.bad EF.out (b0.trans (b1.mono b0.size))
end Go.Proofs.Ytmanbpobdaamfaa
