/-
  Drawn tariffs once more, with bounds on what is drawn. No condition.
-/
import Derived.Test.YtngfhpklakhehaaGreatDoorTDraw
namespace Go.Proofs.YtngfhpklakhehaaGreatDoor
open Go.RowKit
set_option maxHeartbeats 400000

/-- what a draw of a tariff leaves -/
def DrawTB (gs K lo : Nat) (w : World) (r : Ending) (w' : World) : Prop :=
  ∃ (A : Option Addr) (c : Nat) (xs : List Step) (h e : Int), r = .returned (.agg #[.slice A xs.length c, .int .i64 h, .int .i64 e]) ∧ 1 ≤ xs.length ∧ xs.length ≤ 9 ∧ Hid (∀ s ∈ xs, 0 ≤ s.g ∧ s.g ≤ 1000000 ∧ 0 ≤ s.p ∧ s.p ≤ 1000000) ∧ (0 ≤ h ∧ h ≤ 1000) ∧ (0 ≤ e ∧ e ≤ 1000) ∧ w'.ownsRow lo 57 2 (.slice A xs.length c) xs.length (xs.flatMap encStep) ∧ SrcAt w' gs K ∧ w.grownBy w' (some gs)
set_option maxHeartbeats 4000000 in
set_option maxRecDepth 100000 in
theorem l23DrawB_any (gs k : Nat) (w : World) (h : SrcAt w gs k) (hk : k ≤ 10000) :
    Calls Tryz.prog 44 #[.pointer (some ⟨gs, 0, none⟩)] w (DrawTB gs (k + 40) (w.heap.size + 1) w) := by
  obtain ⟨i0, hi, hz0, hz1, hz2⟩ := info_parts stepT_info
  have hgl := h.lt
  have o0 : ((w.alloc (.cells #[.slice none 0 0, .int .i64 0, .int .i64 0] 26)).alloc (.cells #[] 57)).ownsRow (w.heap.size + 1) 57 2 (.slice (some ⟨w.heap.size + 1, 0, none⟩) 0 0) 0 [] := by
    have := World.ownsRow_lit (base := w.heap.size + 1) (e := 57) (size := 2) (w.alloc (.cells #[.slice none 0 0, .int .i64 0, .int .i64 0] 26)) #[] 0 (by simp) (by simp only [maxLen]; omega) rfl
    simpa using this
  have h1 := (h.alloc (.cells #[.slice none 0 0, .int .i64 0, .int .i64 0] 26)).alloc (.cells #[] 57)
  have hb0 : w.grownBy ((w.alloc (.cells #[.slice none 0 0, .int .i64 0, .int .i64 0] 26)).alloc (.cells #[] 57)) (some gs) := gr_alloc (gr_alloc (World.grownBy.refl _ _))
  have H1 := hid h1
  have O0 := hid o0
  have r0 : Res3 ((w.alloc (.cells #[.slice none 0 0, .int .i64 0, .int .i64 0] 26)).alloc (.cells #[] 57)) w.heap.size (.slice none 0 0) (.int .i64 0) (.int .i64 0) := ⟨by go_simp, by go_simp, by go_simp, by go_simp, by go_simp, by go_simp⟩
  have R0 := hid r0
  clear h h1 o0 r0
  go_enter Tryz.func44, Tryz.ntmps44
  go_wp2_with fail
  refine (pick_any gs k 20 _ H1.out (by omega) (by omega)).mono ?_
  rintro r w1 ⟨a, rfl, a0, a1, hs1, hg1⟩
  have O1 := hid (own_src O0.out hg1 (by omega))
  have R1 := hid (R0.out.grow hg1 (by simp; omega))
  have hb1 := hb0.trans hg1
  have H2 := hid hs1
  have a19 : a ≤ 19 := by omega
  clear O0 R0 H1 hb0 hs1 hg1 a1
  go_wp2_with fail
  refine (pick_any gs _ 12 _ H2.out (by omega) (by omega)).mono ?_
  rintro r w2 ⟨b, rfl, b0, b1, hs2, hg2⟩
  have O2 := hid (own_src O1.out hg2 (by omega))
  have R2 := hid (R1.out.grow hg2 (by simp; omega))
  have hb2 := hb1.trans hg2
  have H3 := hid hs2
  have b11 : b ≤ 11 := by omega
  have hr2 := R2.out.lt
  have hw2 := hs2.lt
  clear O1 R1 H2 hb1 hs2 hg2 b1
  have T3 : Hid (TarAt (w2.alloc (.cells #[.slice (some ⟨w.heap.size + 1, 0, none⟩) 0 0, .int .i64 a, .int .i64 (10 * b)] 26)) (w.heap.size + 1) w2.heap.size (some ⟨w.heap.size + 1, 0, none⟩) 0 [] a (10 * b)) :=
    ⟨O2.out.alloc _, fun q hq => by have := (O2.out.lt q hq).2; omega, (World.cell?_alloc_at _ _ _ _ rfl).trans rfl, (World.cell?_alloc_at _ _ _ _ rfl).trans rfl, (World.cell?_alloc_at _ _ _ _ rfl).trans rfl, by go_simp, by go_simp, by go_simp⟩
  have R3 := hid (R2.out.alloc (.cells #[.slice (some ⟨w.heap.size + 1, 0, none⟩) 0 0, .int .i64 a, .int .i64 (10 * b)] 26))
  have H4 := hid (H3.out.alloc (.cells #[.slice (some ⟨w.heap.size + 1, 0, none⟩) 0 0, .int .i64 a, .int .i64 (10 * b)] 26))
  have hb3 := gr_alloc (o := .cells #[.slice (some ⟨w.heap.size + 1, 0, none⟩) 0 0, .int .i64 a, .int .i64 (10 * b)] 26) hb2
  clear O2 R2 H3 hb2
  obtain ⟨gt, hgt⟩ : ∃ gt, gt = w2.heap.size := ⟨_, rfl⟩
  go_wp2_with fail
  refine (pick_any gs _ 40 _ H4.out (by omega) (by omega)).mono ?_
  rintro r w3 ⟨pr, rfl, p0, p1, hs3, hg3⟩
  have p39 : pr ≤ 39 := by omega
  have T4 := hid (T3.out.src hg3 (by omega) (by omega))
  have R4 := hid (R3.out.grow hg3 (by simp; omega))
  have hb4 := hb3.trans hg3
  have H5 := hid hs3
  clear T3 R3 H4 hb3 hs3 hg3 p1
  go_wp2_with fail
  refine (pick_any gs _ 4 _ H5.out (by omega) (by omega)).mono ?_
  rintro r w4 ⟨nk, rfl, n0, n1, hs4, hg4⟩
  have n3 : nk ≤ 3 := by omega
  have T5 := hid (T4.out.src hg4 (by omega) (by omega))
  have R5 := hid (R4.out.grow hg4 (by simp; omega))
  have hb5 := hb4.trans hg4
  have H6 := hid hs4
  have hw4 := hs4.lt
  clear T4 R4 H5 hb4 hs4 hg4 n1
  go_wp2_with fail
  go_loopw [4, 5, 6] (fun vg vp vk wl => ∃ (A : Option Addr) (c : Nat) (xs : List Step) (g p z : Int), vg = .int .i64 g ∧ vp = .int .i64 p ∧ vk = .int .i64 z ∧ 0 ≤ z ∧ z + xs.length ≤ 4 ∧ 1 ≤ z + xs.length ∧ 0 ≤ g ∧ g ≤ 300 * (xs.length : Int) ∧ 0 ≤ p ∧ p ≤ 44 + 49 * (xs.length : Int) ∧ Hid (∀ s ∈ xs, 0 ≤ s.g ∧ s.g ≤ 1000000 ∧ 0 ≤ s.p ∧ s.p ≤ 1000000) ∧
    Hid (TarAt wl (w.heap.size + 1) w2.heap.size A c xs a (10 * b)) ∧ Hid (Res3 wl w.heap.size (.slice none 0 0) (.int .i64 0) (.int .i64 0)) ∧ Hid (SrcAt wl gs (k + 8 + 4 * xs.length)) ∧ w.grownBy wl (some gs) ∧ gs < wl.heap.size ∧ w2.heap.size < wl.heap.size) (fun _ _ vk _ => (intOf vk).toNat)
  case atStart => exact ⟨_, _, [], 0, 5 + pr, 1 + nk, rfl, rfl, rfl, by omega, by simp; omega, by simp; omega, by omega, by simp, by omega, by simp; omega, hid (by simp), T5, R5, hid (H6.out.mono (by simp)), hb5, hw4, T5.out.lt⟩
  case round =>
    obtain ⟨A, c, xs, g, p, z, rfl, rfl, rfl, z0, z1, z2, g0, g1, p0, p1, hBD, hT, hR, hS, hb, hgl2, hgl3⟩ := hrel
    clear T5 R5 H6 hb5
    by_cases hz : 0 < z
    · go_wp2_with fail
      refine (pick_any gs _ 6 _ hS.out (by omega) (by omega)).mono ?_
      rintro r w5 ⟨q, rfl, q0, q1, hs5, hg5⟩
      have q5 : q ≤ 5 := by omega
      have T6 := hid (hT.out.src hg5 (by omega) (by omega))
      have R6 := hid (hR.out.grow hg5 (by simp; omega))
      have hb6 := hb.trans hg5
      have H7 := hid hs5
      have hl5 := hs5.lt
      have hl6 := T6.out.lt
      have g50 : g + 50 * (1 + q) ≤ 1500 := by omega
      have hlo := T6.out.own.lt
      clear hT hR hS hb hs5 hg5 q1
      obtain ⟨G, hG⟩ : ∃ G, G = g + 50 * (1 + q) := ⟨_, rfl⟩
      rw [← hG] at g50
      have G0 : 0 ≤ G := by omega
      have G1 : G ≤ 300 * ((xs.length : Int) + 1) := by omega
      have k0 := T6.out.c0
      have fz := T6.out.f0
      go_wp2_with (at_builtin; refine wpList_append_lies _ rfl _ _ 24 rfl (w.heap.size + 1) 57 i0 (.agg #[.int .i64 0, .int .i64 0]) 2 16 Tryz.underlying24 hi hz0 hz1 hz2 rfl (by omega) (.slice A xs.length c) xs.length (xs.flatMap encStep) rfl (T6.out.own.alloc _) ⟨w5.heap.size, 0, none⟩ 1 1 [.int .i64 (g + 50 * (1 + q)), .int .i64 p] rfl rfl (World.news_of_block (cs := #[.int .i64 (g + 50 * (1 + q)), .int .i64 p]) (t := 57) (fr := (0, 0)) (heap_alloc_new _ _)) (by simp [Value.oneCell']) (by omega) (by simp only [maxLen]; omega) (by omega) (by simp; omega) (w5.heap.size + 1) (by simp) ?_; intro gg cap w6 ho6 hg6 hat6 hlt6; have hgg := (gr_alloc (World.grownBy.refl w5 _)).trans hg6; have ne6 : some w2.heap.size ≠ (Value.slice A xs.length c).ownBlock := (fun q => T6.out.ne _ q.symm rfl); have k6 := hgg.cell k0 ne6; have f6 := (hgg.frozen_far ⟨w2.heap.size, 0, none⟩ hl6 ne6).trans fz)
      have hT7 := (T6.out.alloc (.cells #[.int .i64 (g + 50 * (1 + q)), .int .i64 p] 57)).snoc (z := ⟨g + 50 * (1 + q), p⟩) (by simpa [encStep] using ho6) hg6 (hat6.imp id (fun e => by simp; omega))
      have T7 := hid hT7
      have S7 := hid (((H7.out.alloc (.cells #[.int .i64 (g + 50 * (1 + q)), .int .i64 p] 57)).grown hg6 (fun b hb => by have := (hlo b hb).1; omega)).set (p := ⟨w2.heap.size, 0, none⟩) (u := .slice (some ⟨gg, 0, none⟩) (xs.length + 1) cap) (by simp only; omega))
      have R7 := hid (((R6.out.alloc (.cells #[.int .i64 (g + 50 * (1 + q)), .int .i64 p] 57)).grow hg6 (fun e => by have := (hlo _ e).1; omega)).set (p := ⟨w2.heap.size, 0, none⟩) (u := .slice (some ⟨gg, 0, none⟩) (xs.length + 1) cap) (by simp only; omega))
      have hb7 := gs_set (p := ⟨w2.heap.size, 0, none⟩) (u := .slice (some ⟨gg, 0, none⟩) (xs.length + 1) cap) (gs_grow (gr_alloc (o := .cells #[.int .i64 (g + 50 * (1 + q)), .int .i64 p] 57) hb6) hg6 (fun b hb => .inl (by have := (hlo b hb).1; omega))) (by simp only; omega) rfl
      clear ho6 hg6 hgg T6 R6 H7 hb6 hT7 k6 f6 k0 fz hlo
      refine (pick_any gs _ 50 _ S7.out (by omega) (by omega)).mono ?_
      rintro r w8 ⟨y, rfl, y0, y1, hs8, hg8⟩
      have y49 : y ≤ 49 := by omega
      have T8 := hid (T7.out.src hg8 (by omega) (by omega))
      have R8 := hid (R7.out.grow hg8 (by simp; omega))
      have hb8 := hb7.trans hg8
      have H8 := hid (hs8.mono (show _ ≤ k + 8 + 4 * (xs ++ [(⟨g + 50 * (1 + q), p⟩ : Step)]).length by simp; omega))
      have hl8 := hs8.lt
      have hl9 := T8.out.lt
      have hlen : (xs ++ [(⟨g + 50 * (1 + q), p⟩ : Step)]).length = xs.length + 1 := by simp
      have B8 : Hid (∀ s ∈ xs ++ [(⟨g + 50 * (1 + q), p⟩ : Step)], 0 ≤ s.g ∧ s.g ≤ 1000000 ∧ 0 ≤ s.p ∧ s.p ≤ 1000000) := fun s hs => by
        rcases List.mem_append.1 hs with hs | hs
        · exact hBD.out s hs
        · obtain rfl := List.mem_singleton.1 hs
          simp only
          omega
      clear T7 R7 S7 hb7 hs8 hg8 y1 hBD
      go_wp2_with fail
      go_roundw
      all_goals first | exact ⟨_, _, xs ++ [⟨g + 50 * (1 + q), p⟩], g + 50 * (1 + q), p + y, z - 1, rfl, rfl, rfl, by omega, by omega, by omega, by omega, by omega, by omega, by omega, B8, T8, R8, H8, hb8, hl8, hl9⟩ | exact ⟨⟨_, _, xs ++ [⟨g + 50 * (1 + q), p⟩], g + 50 * (1 + q), p + y, z - 1, rfl, rfl, rfl, by omega, by omega, by omega, by omega, by omega, by omega, by omega, B8, T8, R8, H8, hb8, hl8, hl9⟩, by simp [intOf]; omega⟩ | (simp [intOf]; omega)
    · have hz0' : z = 0 := by omega
      have r0 := hR.out
      have t0 := hT.out
      have c0 := t0.c0
      have c1 := t0.c1
      have c2 := t0.c2
      have d0 := r0.c0
      have d1 := r0.c1
      have d2 := r0.c2
      have e0 := r0.f0
      have e1 := r0.f1
      have e2 := r0.f2
      have hO := hid t0.own
      have hlo := hid t0.own.lt
      have hl1 : 1 ≤ xs.length := by omega
      have hl4 : xs.length ≤ 9 := by omega
      clear r0 t0 hR hT
      go_wp2_with fail
      have s0 : (wr.setCell ⟨w.heap.size, 0, none⟩ (.slice A xs.length c)).cell? ⟨w.heap.size, 0, none⟩ = some (.slice A xs.length c) := World.cell?_setCell_same _ _ _ d0
      have s1 : ((wr.setCell ⟨w.heap.size, 0, none⟩ (.slice A xs.length c)).setCell ⟨w.heap.size, 1, none⟩ (.int .i64 a)).cell? ⟨w.heap.size, 1, none⟩ = some (.int .i64 a) := World.cell?_setCell_same _ _ _ ((World.cell?_setCell_other _ _ _ _ (by simp)).trans d1)
      have s2 : (((wr.setCell ⟨w.heap.size, 0, none⟩ (.slice A xs.length c)).setCell ⟨w.heap.size, 1, none⟩ (.int .i64 a)).setCell ⟨w.heap.size, 2, none⟩ (.int .i64 (10 * b))).cell? ⟨w.heap.size, 2, none⟩ = some (.int .i64 (10 * b)) := World.cell?_setCell_same _ _ _ ((World.cell?_setCell_other _ _ _ _ (by simp)).trans ((World.cell?_setCell_other _ _ _ _ (by simp)).trans d2))
      refine bodyPost_ret (v := .agg #[.slice A xs.length c, .int .i64 a, .int .i64 (10 * b)]) (by simp [results, Tryz.results44, go_sem, s0, s1, s2]) rfl ⟨A, c, xs, a, 10 * b, rfl, hl1, hl4, hBD, ⟨a0, by omega⟩, ⟨by omega, by omega⟩, ?_, ?_, ?_⟩
      · have hne : ∀ j, (Value.slice A xs.length c).ownBlock ≠ some (⟨w.heap.size, j, none⟩ : Addr).block := fun j e => by have := (hlo.out _ e).1; simp only at this; omega
        exact ow_set (hne _) (ow_set (hne _) (ow_set (hne _) hO.out))
      · have hlt : gs < w.heap.size := hgl
        exact (((hS.out.mono (show _ ≤ k + 40 by omega)).set hlt).set hlt).set hlt
      · exact gs_set (gs_set (gs_set hb (Nat.le_refl _) rfl) (Nat.le_refl _) rfl) (Nat.le_refl _) rfl
end Go.Proofs.YtngfhpklakhehaaGreatDoor
